/-
  EpochAgain: one thread retires a slot and frees it, six times. Plain laws that the kernel goes through. Written by gen_epag0.py.
-/
import Derived.Test.YtabmkjokeeakdaaDoorCodesE
import Derived.Test.YtabmkjokeeakdaaDoorPlayInd
namespace Go.Proofs.YtabmkjokeeakdaaDoor
open Go.RowKit
set_option linter.unusedVariables false

/-- nobody has a call left -/
def allDone (m : Mach) (s : PS) : Bool := s.ths.length == m.threads.length && (List.range s.ths.length).all fun n => match s.ths[n]?, m.threads[n]? with | some p, some calls => p.cur.isNone && decide (calls.length ≤ p.next) | _, _ => false
theorem done_step {m : Mach} {s : PS} (h : allDone m s = true) (i n : Nat) : pstep m i n s = s := by
  unfold allDone at h
  rw [Bool.and_eq_true] at h
  unfold pstep
  split
  · rename_i p calls hp hc
    have hl := (List.getElem?_eq_some_iff.1 hp).1
    have h1 := List.all_eq_true.1 h.2 n (List.mem_range.2 hl)
    rw [hp, hc] at h1
    simp only [Bool.and_eq_true, decide_eq_true_eq, Option.isNone_iff_eq_none] at h1
    obtain ⟨nx, cur⟩ := p
    obtain ⟨h2, h3⟩ := h1
    simp only at h2 h3
    subst h2
    unfold pbeg
    simp only
    rw [List.getElem?_eq_none h3]
    rfl
  · rfl
theorem done_run {m : Mach} {s : PS} (h : allDone m s = true) : ∀ (l : List Nat) (i : Nat), prun m i l s = s
  | [], _ => rfl
  | n :: l, i => by rw [prun, done_step h, done_run h l]
def noErrB (s : PS) : Bool := s.evs.all fun e => e.err == 0
theorem noErr_of {s : PS} (h : noErrB s = true) : NoErr s.evs := fun e he => by
  have := List.all_eq_true.1 h e he
  simpa using this
/-- the calls of i rounds -/
def eacalls (k : Nat) : Nat → List VCall
  | 0 => []
  | i + 1 => eacalls k i ++ [⟨2, [(k : Int)]⟩, ⟨3, []⟩, ⟨3, []⟩]
theorem eacalls_len (k : Nat) : ∀ i, (eacalls k i).length = 3 * i
  | 0 => rfl
  | i + 1 => by rw [eacalls, List.length_append, eacalls_len k i]; simp only [List.length_cons, List.length_nil]; omega
def eath (k i t : Nat) : List VCall := if t = 0 then eacalls k i else []
def eagM (N k : Nat) : Mach := ⟨List.replicate (N + 5) 0, [epinCode, eunpinCode, eretireCode, efreeCode N], (List.range 4).map (eath k 6)⟩
def eagIn (k i : Nat) (d : Dg) : Bool := d.e.isSome && decide (d.t < 4) && (i % 3 != 1 || d.told == [(k : Int)]) && (i % 3 != 2 || d.told == [-1])
def eagOk (N k : Nat) : Bool := (fun s : PS => allDone (eagM N k) s && noErrB s && (doings s.evs).length == 18 && (List.range 18).all fun i => match (doings s.evs)[i]? with | some d => eagIn k i d | none => false) (play (eagM N k) (List.replicate (60 * N + 320) 0))
set_option maxRecDepth 1000000 in
theorem eag_1 : ((List.range 1).all fun k => eagOk 1 k) = true := by decide +kernel
set_option maxRecDepth 1000000 in
theorem eag_2 : ((List.range 2).all fun k => eagOk 2 k) = true := by decide +kernel
set_option maxRecDepth 1000000 in
theorem eag_3 : ((List.range 3).all fun k => eagOk 3 k) = true := by decide +kernel
set_option maxRecDepth 1000000 in
theorem eag_4 : ((List.range 4).all fun k => eagOk 4 k) = true := by decide +kernel
set_option maxRecDepth 1000000 in
theorem eag_5 : ((List.range 5).all fun k => eagOk 5 k) = true := by decide +kernel
set_option maxRecDepth 1000000 in
theorem eag_6 : ((List.range 6).all fun k => eagOk 6 k) = true := by decide +kernel
set_option maxRecDepth 1000000 in
theorem eag_7 : ((List.range 7).all fun k => eagOk 7 k) = true := by decide +kernel
set_option maxRecDepth 1000000 in
theorem eag_8 : ((List.range 8).all fun k => eagOk 8 k) = true := by decide +kernel
theorem eag_ok {N k : Nat} (h1 : 1 ≤ N) (h8 : N ≤ 8) (hk : k < N) : eagOk N k = true := by
  have key : ∀ {m : Nat}, ((List.range m).all fun k => eagOk m k) = true → k < m → eagOk m k = true := fun h hk => List.all_eq_true.1 h k (List.mem_range.2 hk)
  rcases (show N = 1 ∨ N = 2 ∨ N = 3 ∨ N = 4 ∨ N = 5 ∨ N = 6 ∨ N = 7 ∨ N = 8 by omega) with rfl | rfl | rfl | rfl | rfl | rfl | rfl | rfl
  · exact key eag_1 hk
  · exact key eag_2 hk
  · exact key eag_3 hk
  · exact key eag_4 hk
  · exact key eag_5 hk
  · exact key eag_6 hk
  · exact key eag_7 hk
  · exact key eag_8 hk
theorem epoch_again {N k : Nat} (h1 : 1 ≤ N) (h8 : N ≤ 8) (hk : k < N) :
    NoErr (play (eagM N k) (List.replicate 4500 0)).evs ∧ (doings (play (eagM N k) (List.replicate 4500 0)).evs).length = 18 ∧ ∀ (i : Nat) (d : Dg), (doings (play (eagM N k) (List.replicate 4500 0)).evs)[i]? = some d → d.t < 4 ∧ d.e ≠ none ∧ (i % 3 = 1 → d.told = [(k : Int)]) ∧ (i % 3 = 2 → d.told = [-1]) := by
  have hb := eag_ok h1 h8 hk
  unfold eagOk at hb
  simp only [Bool.and_eq_true, beq_iff_eq] at hb
  obtain ⟨⟨⟨b1, b2⟩, b3⟩, b4⟩ := hb
  have e : play (eagM N k) (List.replicate 4500 0) = play (eagM N k) (List.replicate (60 * N + 320) 0) := by
    have e2 : ∀ a b : Nat, List.replicate (a + b) 0 = List.replicate a 0 ++ List.replicate b 0 := fun a b => by rw [List.replicate_append_replicate]
    have e3 := e2 (60 * N + 320) (4500 - (60 * N + 320))
    rw [show 60 * N + 320 + (4500 - (60 * N + 320)) = 4500 by omega] at e3
    unfold play
    rw [e3, prun_append]
    exact done_run b1 _ _
  rw [e]
  refine ⟨noErr_of b2, b3, fun i d hd => ?_⟩
  have hi : i < 18 := by rw [← b3]; exact (List.getElem?_eq_some_iff.1 hd).1
  have := List.all_eq_true.1 b4 i (List.mem_range.2 hi)
  rw [hd] at this
  unfold eagIn at this
  simp only [Bool.and_eq_true, Bool.or_eq_true, beq_iff_eq, bne_iff_ne, decide_eq_true_eq] at this
  obtain ⟨⟨⟨c1, c2⟩, c3⟩, c4⟩ := this
  exact ⟨c2, fun he => (by rw [he] at c1; cases c1), fun h => c3.resolve_left (fun c => c h), fun h => c4.resolve_left (fun c => c h)⟩
end Go.Proofs.YtabmkjokeeakdaaDoor
