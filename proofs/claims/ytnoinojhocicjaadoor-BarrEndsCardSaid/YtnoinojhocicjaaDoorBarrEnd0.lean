/-
  Package barr where all steps are done in turn: plain laws that the kernel goes through.
-/
import Derived.Test.YtnoinojhocicjaaDoorScan
import Derived.Test.YtnoinojhocicjaaDoorBarrLaw
namespace Go.Proofs.YtnoinojhocicjaaDoor
open Go.RowKit
set_option linter.unusedVariables false

/-- i times all threads, one step each -/
def rrS (n : Nat) : Nat → List Nat
  | 0 => []
  | i + 1 => rrS n i ++ List.range n
theorem rrS_len (n : Nat) : ∀ i, (rrS n i).length = n * i
  | 0 => rfl
  | i + 1 => by rw [rrS, List.length_append, List.length_range, rrS_len n i, Nat.mul_succ]
theorem rrS_lt (n : Nat) : ∀ i, ∀ x ∈ rrS n i, x < n
  | 0, x, h => by cases h
  | i + 1, x, h => by
    rcases List.mem_append.1 h with h | h
    · exact rrS_lt n i x h
    · exact List.mem_range.1 h
theorem rrS_add (n a : Nat) : ∀ b, ∃ l, rrS n (a + b) = rrS n a ++ l
  | 0 => ⟨[], by simp⟩
  | b + 1 => by
    obtain ⟨l, hl⟩ := rrS_add n a b
    exact ⟨l ++ List.range n, by rw [← Nat.add_assoc, rrS, hl, List.append_assoc]⟩
/-- nobody has a call left -/
def allDone (m : Mach) (s : PS) : Bool := s.ths.length == m.threads.length && (List.range s.ths.length).all fun n => match s.ths[n]?, m.threads[n]? with | some p, some calls => p.cur.isNone && decide (calls.length ≤ p.next) | _, _ => false
theorem done_step {m : Mach} {s : PS} (h : allDone m s = true) (i n : Nat) : pstep m i n s = s := by
  unfold allDone at h
  rw [Bool.and_eq_true] at h
  unfold pstep
  split
  · rename_i p calls hp hc
    have hl := (List.getElem?_eq_some_iff.1 hp).1
    have h1 := List.all_eq_true.1 h.2 n (List.mem_range.2 hl)
    rw [hp, hc] at h1
    simp only [Bool.and_eq_true, decide_eq_true_eq, Option.isNone_iff_eq_none] at h1
    obtain ⟨nx, cur⟩ := p
    obtain ⟨h2, h3⟩ := h1
    simp only at h2 h3
    subst h2
    unfold pbeg
    simp only
    rw [List.getElem?_eq_none h3]
    rfl
  · rfl
theorem done_run {m : Mach} {s : PS} (h : allDone m s = true) : ∀ (l : List Nat) (i : Nat), prun m i l s = s
  | [], _ => rfl
  | n :: l, i => by rw [prun, done_step h, done_run h l]
def beOk (n k : Nat) : Bool := (fun s : PS => allDone (barrMach n k 0) s && noErrB s && (doings s.evs).length == n * k && (doings s.evs).all fun d => d.e.isSome) (play (barrMach n k 0) (rrS n (40 * k)))
set_option maxRecDepth 1000000 in
theorem be_1 : ((List.range 8).all fun k => beOk 1 k) = true := by decide +kernel
set_option maxRecDepth 1000000 in
theorem be_2 : ((List.range 8).all fun k => beOk 2 k) = true := by decide +kernel
set_option maxRecDepth 1000000 in
theorem be_3 : ((List.range 8).all fun k => beOk 3 k) = true := by decide +kernel
set_option maxRecDepth 1000000 in
theorem be_4 : ((List.range 8).all fun k => beOk 4 k) = true := by decide +kernel
theorem barr_ends {n k : Nat} (h1 : 1 ≤ n) (h4 : n ≤ 4) (hk : k < 8) : NoErr (play (barrMach n k 0) (rrS n (200 * k))).evs ∧ (doings (play (barrMach n k 0) (rrS n (200 * k))).evs).length = n * k ∧ ∀ d ∈ doings (play (barrMach n k 0) (rrS n (200 * k))).evs, d.e ≠ none := by
  have hb : beOk n k = true := by
    rcases (show n = 1 ∨ n = 2 ∨ n = 3 ∨ n = 4 by omega) with rfl | rfl | rfl | rfl
    · exact List.all_eq_true.1 be_1 k (List.mem_range.2 hk)
    · exact List.all_eq_true.1 be_2 k (List.mem_range.2 hk)
    · exact List.all_eq_true.1 be_3 k (List.mem_range.2 hk)
    · exact List.all_eq_true.1 be_4 k (List.mem_range.2 hk)
  unfold beOk at hb
  simp only [Bool.and_eq_true, beq_iff_eq] at hb
  obtain ⟨⟨⟨b1, b2⟩, b3⟩, b4⟩ := hb
  have e : play (barrMach n k 0) (rrS n (200 * k)) = play (barrMach n k 0) (rrS n (40 * k)) := by
    obtain ⟨l, hl⟩ := rrS_add n (40 * k) (160 * k)
    rw [show 200 * k = 40 * k + 160 * k by omega, hl]
    unfold play
    rw [prun_append]
    exact done_run b1 l _
  rw [e]
  refine ⟨noErr_of b2, b3, fun d hd he => ?_⟩
  have := List.all_eq_true.1 b4 d hd
  rw [he] at this
  cases this
end Go.Proofs.YtnoinojhocicjaaDoor
