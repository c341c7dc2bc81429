/-
  barographkeep.SelectBoth: the law's form for the frame.
-/
import Derived.Test.YtfdgklfkpofkeaaTgBo2
import Derived.Test.YtfdgklfkpofkeaaFrameMark
namespace Go.Proofs.Ytfdgklfkpofkeaa
open Go.RowKit Go.Maps
set_option linter.unusedVariables false
theorem law_selectBoth (A : Option Addr) (n c : Nat) (l : List Int) (A1 : Option Addr) (n1 c1 : Nat) (l1 : List VMark) (A2 : Option Addr) (n2 c2 : Nat) (l2 : List VMark) (w : World) (h1 : n ≤ c) (h2 : c ≤ maxLen) (h3 : c * 8 ≤ 140737488351232) (hS : Sl w 1 A n (ints l)) (hr : ∀ x ∈ l, -9223372036854775808 ≤ x ∧ x ≤ 9223372036854775807)
    (a1 : n1 ≤ c1) (a2 : c1 ≤ maxLen) (a3 : c1 * 24 ≤ 140737488351232) (aS : Sl w 3 A1 n1 (l1.flatMap gK)) (ar : ∀ x ∈ l1, x.ok)
    (b1 : n2 ≤ c2) (b2 : c2 ≤ maxLen) (b3 : c2 * 24 ≤ 140737488351232) (bS : Sl w 3 A2 n2 (l2.flatMap gK)) (br : ∀ x ∈ l2, x.ok) :
    Calls Try.prog 8 #[.slice A n c, .slice A1 n1 c1, .slice A2 n2 c2] w fun e w' => e = .returned (.bool true) ∧ Below w.heap.size w w' := by
  have e1 : l1.length = n1 := by have := aS.1; rw [flatMap_len gK 3 (fun _ => rfl)] at this; omega
  have e2 : l2.length = n2 := by have := bS.1; rw [flatMap_len gK 3 (fun _ => rfl)] at this; omega
  exact select_both A A1 A2 n c n1 c1 n2 c2 l l1 l2 w hS hr (by omega) aS e1 ar (by omega) bS e2 br (by omega)
end Go.Proofs.Ytfdgklfkpofkeaa
