/-
  barographkeep.ValuesAll: the law's form for the frame.
-/
import Derived.Test.YtfdgklfkpofkeaaTgVa
namespace Go.Proofs.Ytfdgklfkpofkeaa
open Go.RowKit Go.Maps
set_option linter.unusedVariables false
theorem law_valuesAll (A : Option Addr) (n c : Nat) (l : List Int) (a : Int) (w : World) (h1 : n ≤ c) (h2 : c ≤ maxLen) (h3 : c * 8 ≤ 140737488351232) (hS : Sl w 1 A n (ints l)) (hr : ∀ x ∈ l, -9223372036854775808 ≤ x ∧ x ≤ 9223372036854775807) (k0 : -9223372036854775808 ≤ a) (k1 : a ≤ 9223372036854775807) :
    Calls Try.prog 10 #[.slice A n c, .int .i64 a] w fun e w' => e = .returned (.bool true) ∧ Below w.heap.size w w' :=
  values_all A n c l a w hS hr (by omega) k0 k1
end Go.Proofs.Ytfdgklfkpofkeaa
