/-
  barographkeep.SelectNot: the law's form for the frame.
-/
import Derived.Test.YtfdgklfkpofkeaaTgNot
namespace Go.Proofs.Ytfdgklfkpofkeaa
open Go.RowKit Go.Maps
set_option linter.unusedVariables false
theorem law_selectNot (A : Option Addr) (n c : Nat) (l : List Int) (m : VMark) (w : World) (h1 : n ≤ c) (h2 : c ≤ maxLen) (h3 : c * 8 ≤ 140737488351232) (hS : Sl w 1 A n (ints l)) (hr : ∀ x ∈ l, -9223372036854775808 ≤ x ∧ x ≤ 9223372036854775807) (hm : m.ok) :
    Calls Try.prog 9 #[.slice A n c, .agg #[.int .i64 m.kind, .int .i64 m.key, .int .i64 m.value]] w fun e w' => e = .returned (.bool true) ∧ Below w.heap.size w w' :=
  select_not A n c l m w hS hr (by omega) hm
end Go.Proofs.Ytfdgklfkpofkeaa
