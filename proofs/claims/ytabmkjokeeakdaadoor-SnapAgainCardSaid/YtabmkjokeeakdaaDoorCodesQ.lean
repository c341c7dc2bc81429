/-
  Codes of package queue: their walks. Written by gen_codesq.py.
-/
import Derived.Test.YtabmkjokeeakdaaDoorCodes1
import Derived.Test.YtabmkjokeeakdaaDoorAsm4
import Derived.Test.YtabmkjokeeakdaaDoorQStep
namespace Go.Proofs.YtabmkjokeeakdaaDoor
open Go.RowKit Go.Maps
set_option linter.unusedVariables false

/-- a code, and no error -/
def CodePost2 (w : World) (code : List Op5) (e : Ending) (w' : World) : Prop := ∃ v, e = .returned (.tuple #[v, .int .i64 0]) ∧ Ow w w' 99 5 gO v code
theorem gotos_in {a : AC} (h : (a.gotos.all fun x => Nat.blt x.1 a.ops.length && Nat.ble x.2.length 100) = true) : ∀ x ∈ a.gotos, x.1 < a.ops.length ∧ x.2.length ≤ 100 := by
  intro x hx
  have h1 := List.all_eq_true.1 h x hx
  rw [Bool.and_eq_true] at h1
  exact ⟨Nat.le_of_ble_eq_true h1.1, Nat.le_of_ble_eq_true h1.2⟩
end Go.Proofs.YtabmkjokeeakdaaDoor
