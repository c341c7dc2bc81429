/-
  ValuesAll, the plain part: the series that have a key are those of its values.
-/
import Derived.Test.YtfdgklfkpofkeaaTgVm
import Derived.Test.YtfdgklfkpofkeaaTgSel
namespace Go.Proofs.Ytfdgklfkpofkeaa
open Go.RowKit Go.Maps
set_option linter.unusedVariables false

theorem vS_lt : ∀ a < 4, ∀ b < 4, 1 ≤ a → 1 ≤ b → Op.bytesLess (vS a).toList (vS b).toList = decide (a < b) := by decide +kernel
theorem sel_is (ns : List Nat) (k j : Nat) : (selM ns [⟨1, (k, j)⟩]).length = cntT ns (k, j) := by
  unfold selM cntT
  congr 1
  apply List.filter_congr
  intro q _
  simp [VMatch.is, VMatch.wth]
theorem sel_has (ns : List Nat) (k : Nat) : (selM ns [⟨3, (k, 0)⟩]).length = cntT ns (k, 0) := by
  unfold selM cntT
  congr 1
  apply List.filter_congr
  intro q _
  simp [VMatch.is, VMatch.wth]
theorem has_split (x k : Nat) : (if hasT x (k, 0) = true then 1 else 0) = (if hasT x (k, 1) = true then 1 else 0) + (if hasT x (k, 2) = true then 1 else 0) + (if hasT x (k, 3) = true then 1 else 0) := by
  have h4 : digT x k < 4 := by unfold digT; omega
  unfold hasT
  simp only [if_true, if_false, show (1 : Nat) = 0 ↔ False by decide, show (2 : Nat) = 0 ↔ False by decide, show (3 : Nat) = 0 ↔ False by decide, decide_eq_true_eq]
  have : digT x k = 0 ∨ digT x k = 1 ∨ digT x k = 2 ∨ digT x k = 3 := by omega
  rcases this with h | h | h | h <;> simp [h]
theorem len_filter {α : Type} (p : α → Bool) (l : List α) : (l.filter p).length = (l.map fun x => if p x = true then 1 else 0).sum := by
  induction l with
  | nil => rfl
  | cons a l ih => by_cases h : p a = true <;> simp [h, ih] <;> omega
theorem cnt_split (ns : List Nat) (k : Nat) : cntT ns (k, 0) = cntT ns (k, 1) + cntT ns (k, 2) + cntT ns (k, 3) := by
  unfold cntT
  rw [len_filter, len_filter, len_filter, len_filter]
  generalize List.range ns.length = l
  induction l with
  | nil => rfl
  | cons a l ih =>
    have := has_split (ns.getD a 0) k
    simp only [List.map_cons, List.sum_cons]
    omega
theorem sum_js (ns : List Nat) (k : Nat) : ((jsOf ns k).map fun j => cntT ns (k, j)).sum = cntT ns (k, 0) := by
  rw [cnt_split]
  unfold jsOf
  by_cases h1 : cntT ns (k, 1) = 0 <;> by_cases h2 : cntT ns (k, 2) = 0 <;> by_cases h3 : cntT ns (k, 3) = 0 <;> simp [h1, h2, h3] <;> omega
end Go.Proofs.Ytfdgklfkpofkeaa
