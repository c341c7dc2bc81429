/-
  Package sema where there is no room: plain laws that the kernel goes through.
-/
import Derived.Test.YtnoinojhocicjaaDoorScan
import Derived.Test.YtnoinojhocicjaaDoorSemaLaw
namespace Go.Proofs.YtnoinojhocicjaaDoor
open Go.RowKit
set_option linter.unusedVariables false

theorem spin {m : Mach} {n : Nat} {s1 s2 : PS} (h1 : ∀ i, pstep m i n s1 = s2) (h2 : ∀ i, pstep m i n s2 = s1) : ∀ k i, prun m i (List.replicate k n) s1 = s1 ∨ prun m i (List.replicate k n) s1 = s2 := by
  have key : ∀ k i, (prun m i (List.replicate k n) s1 = s1 ∨ prun m i (List.replicate k n) s1 = s2) ∧ (prun m i (List.replicate k n) s2 = s1 ∨ prun m i (List.replicate k n) s2 = s2) := by
    intro k
    induction k with
    | zero => intro i; exact ⟨.inl rfl, .inr rfl⟩
    | succ k ih =>
      intro i
      rw [List.replicate_succ, prun, prun, h1, h2]
      exact ⟨(ih (i + 1)).2, (ih (i + 1)).1⟩
  intro k i
  exact (key k i).1
def thF (R t : Nat) : Nat → List VCall := fun j => if j < t then [⟨0, []⟩] else rths 1 0 4 0 j
def sfM (R : Nat) : Mach := ⟨[(R : Int)], [enterCode, leaveCode, lops 0 0], (List.range 4).map (thF R R)⟩
def sfS (R : Nat) : List Nat := partsS (fun d => d) (fun _ => 100) R
/-- how many calls have ended -/
def endedA (ds : List Dg) : Nat := (ds.filter fun d => d.e.isSome).length
def sfE : Nat → List Ev
  | 0 => []
  | t + 1 => sfE t ++ [⟨100 * t, t, 0, false, 0, []⟩, ⟨100 * t + 5, t, 0, true, 0, []⟩]
def sfP (R p : Nat) : PS := ⟨(List.range 4).map fun j => if j < R then ⟨1, none⟩ else if j = 3 then ⟨1, some (0, semTh p 0 0)⟩ else ⟨0, none⟩, [0], sfE R ++ [⟨100 * R, 3, 0, false, 0, []⟩]⟩
set_option maxRecDepth 1000000 in
theorem sf_1 : play (sfM 1) (sfS 1 ++ [3]) = sfP 1 1 := by kernel_rfl
set_option maxRecDepth 1000000 in
theorem sf_2 : play (sfM 2) (sfS 2 ++ [3]) = sfP 2 1 := by kernel_rfl
set_option maxRecDepth 1000000 in
theorem sf_3 : play (sfM 3) (sfS 3 ++ [3]) = sfP 3 1 := by kernel_rfl
set_option maxRecDepth 1000000 in
theorem sf_0 : (noErrB (play (sfM 1) (sfS 1)) && endedA (doings (play (sfM 1) (sfS 1)).evs) == 1 && noErrB (play (sfM 2) (sfS 2)) && endedA (doings (play (sfM 2) (sfS 2)).evs) == 2 && noErrB (play (sfM 3) (sfS 3)) && endedA (doings (play (sfM 3) (sfS 3)).evs) == 3) = true := by decide +kernel
theorem sf_a1 (i : Nat) : pstep (sfM 1) i 3 (sfP 1 1) = sfP 1 2 := by kernel_rfl
theorem sf_b1 (i : Nat) : pstep (sfM 1) i 3 (sfP 1 2) = sfP 1 1 := by kernel_rfl
theorem sf_a2 (i : Nat) : pstep (sfM 2) i 3 (sfP 2 1) = sfP 2 2 := by kernel_rfl
theorem sf_b2 (i : Nat) : pstep (sfM 2) i 3 (sfP 2 2) = sfP 2 1 := by kernel_rfl
theorem sf_a3 (i : Nat) : pstep (sfM 3) i 3 (sfP 3 1) = sfP 3 2 := by kernel_rfl
theorem sf_b3 (i : Nat) : pstep (sfM 3) i 3 (sfP 3 2) = sfP 3 1 := by kernel_rfl
theorem sf_end {R : Nat} (h1 : play (sfM R) (sfS R ++ [3]) = sfP R 1) (ha : ∀ i, pstep (sfM R) i 3 (sfP R 1) = sfP R 2) (hb : ∀ i, pstep (sfM R) i 3 (sfP R 2) = sfP R 1) (k : Nat) : (play (sfM R) (sfS R ++ List.replicate (k + 1) 3)).evs = (sfP R 1).evs := by
  have e : sfS R ++ List.replicate (k + 1) 3 = (sfS R ++ [3]) ++ List.replicate k 3 := by rw [List.replicate_succ, List.append_assoc]; rfl
  have e2 : play (sfM R) ((sfS R ++ [3]) ++ List.replicate k 3) = prun (sfM R) (0 + (sfS R ++ [3]).length) (List.replicate k 3) (play (sfM R) (sfS R ++ [3])) := by unfold play; rw [prun_append]
  rw [e, e2, h1]
  rcases spin ha hb k (0 + (sfS R ++ [3]).length) with h | h
  · rw [h]
  · rw [h]; rfl
theorem noErr_evs {es es' : List Ev} (h : es = es') (h2 : NoErr es') : NoErr es := by rw [h]; exact h2
theorem sema_full {R : Nat} (h1 : 1 ≤ R) (h3 : R ≤ 3) (k : Nat) : NoErr (play (sfM R) (sfS R ++ List.replicate k 3)).evs ∧ endedA (doings (play (sfM R) (sfS R ++ List.replicate k 3)).evs) = R := by
  have h0 := sf_0
  simp only [Bool.and_eq_true, beq_iff_eq] at h0
  obtain ⟨⟨⟨⟨⟨a1, a2⟩, a3⟩, a4⟩, a5⟩, a6⟩ := h0
  cases k with
  | zero =>
    rw [List.replicate_zero, List.append_nil]
    rcases (show R = 1 ∨ R = 2 ∨ R = 3 by omega) with rfl | rfl | rfl
    · exact ⟨noErr_of a1, a2⟩
    · exact ⟨noErr_of a3, a4⟩
    · exact ⟨noErr_of a5, a6⟩
  | succ k =>
    rcases (show R = 1 ∨ R = 2 ∨ R = 3 by omega) with rfl | rfl | rfl
    · rw [sf_end sf_1 sf_a1 sf_b1 k]; exact ⟨noErr_of (s := sfP 1 1) (by decide), by decide⟩
    · rw [sf_end sf_2 sf_a2 sf_b2 k]; exact ⟨noErr_of (s := sfP 2 1) (by decide), by decide⟩
    · rw [sf_end sf_3 sf_a3 sf_b3 k]; exact ⟨noErr_of (s := sfP 3 1) (by decide), by decide⟩
end Go.Proofs.YtnoinojhocicjaaDoor
