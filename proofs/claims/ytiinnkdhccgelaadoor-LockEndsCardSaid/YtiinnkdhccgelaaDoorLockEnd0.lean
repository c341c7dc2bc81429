/-
  Package lock where threads are alone, or do their steps in turn: plain laws that the kernel goes through.
-/
import Derived.Test.YtiinnkdhccgelaaDoorLDef
import Derived.Test.YtiinnkdhccgelaaDoorPlayInd
namespace Go.Proofs.YtiinnkdhccgelaaDoor
open Go.RowKit
set_option linter.unusedVariables false

/-- i times all threads, one step each -/
def rrS (n : Nat) : Nat → List Nat
  | 0 => []
  | i + 1 => rrS n i ++ List.range n
theorem rrS_len (n : Nat) : ∀ i, (rrS n i).length = n * i
  | 0 => rfl
  | i + 1 => by rw [rrS, List.length_append, List.length_range, rrS_len n i, Nat.mul_succ]
theorem rrS_lt (n : Nat) : ∀ i, ∀ x ∈ rrS n i, x < n
  | 0, x, h => by cases h
  | i + 1, x, h => by
    rcases List.mem_append.1 h with h | h
    · exact rrS_lt n i x h
    · exact List.mem_range.1 h
theorem rrS_add (n a : Nat) : ∀ b, ∃ l, rrS n (a + b) = rrS n a ++ l
  | 0 => ⟨[], by simp⟩
  | b + 1 => by
    obtain ⟨l, hl⟩ := rrS_add n a b
    exact ⟨l ++ List.range n, by rw [← Nat.add_assoc, rrS, hl, List.append_assoc]⟩
/-- nobody has a call left -/
def allDone (m : Mach) (s : PS) : Bool := s.ths.length == m.threads.length && (List.range s.ths.length).all fun n => match s.ths[n]?, m.threads[n]? with | some p, some calls => p.cur.isNone && decide (calls.length ≤ p.next) | _, _ => false
theorem done_step {m : Mach} {s : PS} (h : allDone m s = true) (i n : Nat) : pstep m i n s = s := by
  unfold allDone at h
  rw [Bool.and_eq_true] at h
  unfold pstep
  split
  · rename_i p calls hp hc
    have hl := (List.getElem?_eq_some_iff.1 hp).1
    have h1 := List.all_eq_true.1 h.2 n (List.mem_range.2 hl)
    rw [hp, hc] at h1
    simp only [Bool.and_eq_true, decide_eq_true_eq, Option.isNone_iff_eq_none] at h1
    obtain ⟨nx, cur⟩ := p
    obtain ⟨h2, h3⟩ := h1
    simp only at h2 h3
    subst h2
    unfold pbeg
    simp only
    rw [List.getElem?_eq_none h3]
    rfl
  · rfl
theorem done_run {m : Mach} {s : PS} (h : allDone m s = true) : ∀ (l : List Nat) (i : Nat), prun m i l s = s
  | [], _ => rfl
  | n :: l, i => by rw [prun, done_step h, done_run h l]
def noErrB (s : PS) : Bool := s.evs.all fun e => e.err == 0
theorem noErr_of {s : PS} (h : noErrB s = true) : NoErr s.evs := fun e he => by
  have := List.all_eq_true.1 h e he
  simpa using this
/-! ### one thread alone -/
def laF (w : Nat) : Nat → Nat := fun t => if t = w then 4 else 0
def laOk (n w : Nat) : Bool := (fun s : PS => allDone (lmach n (laF w) 0) s && noErrB s && (doings s.evs).length == 8 && (doings s.evs).all fun d => d.e.isSome && d.t == w) (play (lmach n (laF w) 0) (List.replicate 300 w))
set_option maxRecDepth 1000000 in
theorem la_all : ((List.range 4).all fun n => (List.range (n + 1)).all fun w => laOk (n + 1) w) = true := by decide +kernel
theorem lock_alone {n w : Nat} (h1 : 1 ≤ n) (h4 : n ≤ 4) (hw : w < n) :
    NoErr (play (lmach n (laF w) 0) (List.replicate 1500 w)).evs ∧ (doings (play (lmach n (laF w) 0) (List.replicate 1500 w)).evs).length = 8 ∧ ∀ d ∈ doings (play (lmach n (laF w) 0) (List.replicate 1500 w)).evs, d.e ≠ none ∧ d.t = w := by
  have hb := List.all_eq_true.1 (List.all_eq_true.1 la_all (n - 1) (List.mem_range.2 (by omega))) w (List.mem_range.2 (by omega))
  rw [show n - 1 + 1 = n by omega] at hb
  unfold laOk at hb
  simp only [Bool.and_eq_true, beq_iff_eq] at hb
  obtain ⟨⟨⟨b1, b2⟩, b3⟩, b4⟩ := hb
  have e : play (lmach n (laF w) 0) (List.replicate 1500 w) = play (lmach n (laF w) 0) (List.replicate 300 w) := by
    have e2 : ∀ a b : Nat, List.replicate (a + b) w = List.replicate a w ++ List.replicate b w := fun a b => by rw [List.replicate_append_replicate]
    have e3 := e2 300 1200
    rw [show 300 + 1200 = 1500 from rfl] at e3
    unfold play
    rw [e3, prun_append]
    exact done_run b1 _ _
  rw [e]
  refine ⟨noErr_of b2, b3, fun d hd => ?_⟩
  have := List.all_eq_true.1 b4 d hd
  simp only [Bool.and_eq_true, beq_iff_eq] at this
  exact ⟨fun he => (by rw [he] at this; cases this.1), this.2⟩
/-! ### all in turn -/
def leF (ks : List Nat) : Nat → Nat := fun t => ks.getD t 0
def leOk (n : Nat) (ks : List Nat) : Bool := (fun s : PS => allDone (lmach n (leF ks) 0) s && noErrB s && (doings s.evs).length == 2 * ks.sum && (doings s.evs).all fun d => d.e.isSome) (play (lmach n (leF ks) 0) (rrS n 200))
set_option maxRecDepth 1000000 in
theorem le_1 : ([[0, 0, 0, 0], [1, 0, 0, 0]].all fun ks => leOk 1 ks) = true := by decide +kernel
set_option maxRecDepth 1000000 in
theorem le_2 : ([[0, 0, 0, 0], [1, 0, 0, 0], [0, 1, 0, 0], [1, 1, 0, 0]].all fun ks => leOk 2 ks) = true := by decide +kernel
set_option maxRecDepth 1000000 in
theorem le_3 : ([[0, 0, 0, 0], [1, 0, 0, 0], [0, 1, 0, 0], [1, 1, 0, 0], [0, 0, 1, 0], [1, 0, 1, 0], [0, 1, 1, 0], [1, 1, 1, 0]].all fun ks => leOk 3 ks) = true := by decide +kernel
set_option maxRecDepth 1000000 in
theorem le_4a : ([[0, 0, 0, 0], [1, 0, 0, 0], [0, 1, 0, 0], [1, 1, 0, 0], [0, 0, 1, 0], [1, 0, 1, 0], [0, 1, 1, 0], [1, 1, 1, 0]].all fun ks => leOk 4 ks) = true := by decide +kernel
set_option maxRecDepth 1000000 in
theorem le_4b : ([[0, 0, 0, 1], [1, 0, 0, 1], [0, 1, 0, 1], [1, 1, 0, 1], [0, 0, 1, 1], [1, 0, 1, 1], [0, 1, 1, 1], [1, 1, 1, 1]].all fun ks => leOk 4 ks) = true := by decide +kernel
theorem le_all {n k0 k1 k2 k3 : Nat} (h1 : 1 ≤ n) (h4 : n ≤ 4) (b0 : k0 < 2) (b1 : k1 < 2) (b2 : k2 < 2) (b3 : k3 < 2) (z1 : n ≤ 1 → k1 = 0) (z2 : n ≤ 2 → k2 = 0) (z3 : n ≤ 3 → k3 = 0) : leOk n [k0, k1, k2, k3] = true := by
  have key : ∀ {m : Nat} {l : List (List Nat)}, (l.all fun ks => leOk m ks) = true → ∀ ks ∈ l, leOk m ks = true := fun h ks hk => List.all_eq_true.1 h ks hk
  rcases (show n = 1 ∨ n = 2 ∨ n = 3 ∨ n = 4 by omega) with rfl | rfl | rfl | rfl
  · obtain rfl := z1 (by decide); obtain rfl := z2 (by decide); obtain rfl := z3 (by decide)
    refine key le_1 _ ?_
    rcases (show k0 = 0 ∨ k0 = 1 by omega) with rfl | rfl <;> decide
  · obtain rfl := z2 (by decide); obtain rfl := z3 (by decide)
    refine key le_2 _ ?_
    rcases (show k0 = 0 ∨ k0 = 1 by omega) with rfl | rfl <;> rcases (show k1 = 0 ∨ k1 = 1 by omega) with rfl | rfl <;> decide
  · obtain rfl := z3 (by decide)
    refine key le_3 _ ?_
    rcases (show k0 = 0 ∨ k0 = 1 by omega) with rfl | rfl <;> rcases (show k1 = 0 ∨ k1 = 1 by omega) with rfl | rfl <;> rcases (show k2 = 0 ∨ k2 = 1 by omega) with rfl | rfl <;> decide
  · rcases (show k3 = 0 ∨ k3 = 1 by omega) with rfl | rfl
    · refine key le_4a _ ?_
      rcases (show k0 = 0 ∨ k0 = 1 by omega) with rfl | rfl <;> rcases (show k1 = 0 ∨ k1 = 1 by omega) with rfl | rfl <;> rcases (show k2 = 0 ∨ k2 = 1 by omega) with rfl | rfl <;> decide
    · refine key le_4b _ ?_
      rcases (show k0 = 0 ∨ k0 = 1 by omega) with rfl | rfl <;> rcases (show k1 = 0 ∨ k1 = 1 by omega) with rfl | rfl <;> rcases (show k2 = 0 ∨ k2 = 1 by omega) with rfl | rfl <;> decide
theorem lock_ends {n k0 k1 k2 k3 tot : Nat} (h1 : 1 ≤ n) (h4 : n ≤ 4) (b0 : k0 < 2) (b1 : k1 < 2) (b2 : k2 < 2) (b3 : k3 < 2) (z1 : n ≤ 1 → k1 = 0) (z2 : n ≤ 2 → k2 = 0) (z3 : n ≤ 3 → k3 = 0) (ht : 1 ≤ tot) :
    NoErr (play (lmach n (leF [k0, k1, k2, k3]) 0) (rrS n (300 * tot))).evs ∧ (doings (play (lmach n (leF [k0, k1, k2, k3]) 0) (rrS n (300 * tot))).evs).length = 2 * (k0 + k1 + k2 + k3) ∧ ∀ d ∈ doings (play (lmach n (leF [k0, k1, k2, k3]) 0) (rrS n (300 * tot))).evs, d.e ≠ none := by
  have hb := le_all h1 h4 b0 b1 b2 b3 z1 z2 z3
  unfold leOk at hb
  simp only [Bool.and_eq_true, beq_iff_eq] at hb
  obtain ⟨⟨⟨a1, a2⟩, a3⟩, a4⟩ := hb
  have e : play (lmach n (leF [k0, k1, k2, k3]) 0) (rrS n (300 * tot)) = play (lmach n (leF [k0, k1, k2, k3]) 0) (rrS n 200) := by
    obtain ⟨l, hl⟩ := rrS_add n 200 (300 * tot - 200)
    rw [show 200 + (300 * tot - 200) = 300 * tot by omega] at hl
    rw [hl]
    unfold play
    rw [prun_append]
    exact done_run a1 l _
  rw [e]
  refine ⟨noErr_of a2, by rw [a3]; simp; omega, fun d hd he => ?_⟩
  have := List.all_eq_true.1 a4 d hd
  rw [he] at this
  cases this
end Go.Proofs.YtiinnkdhccgelaaDoor
