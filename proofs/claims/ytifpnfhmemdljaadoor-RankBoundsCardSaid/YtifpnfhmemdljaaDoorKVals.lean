/-
  barographkeep.Values: its walk.
-/
import Derived.Test.YtifpnfhmemdljaaDoorNum
namespace Go.Proofs.YtifpnfhmemdljaaDoor
open Go.RowKit
set_option linter.unusedVariables false
def valsOf (l : List Int) (m : Nat) : List Int := 3 :: (l.take m).map fun x => (pk x 50 : Int) - 20
theorem valsOf_bd (l : List Int) (m : Nat) : ∀ v ∈ valsOf l m, -20 ≤ v ∧ v ≤ 29 := by
  intro v hv
  rcases List.mem_cons.1 hv with rfl | h
  · decide
  · obtain ⟨x, _, rfl⟩ := List.mem_map.1 h
    have := pk_lt x 50 (by decide); omega
theorem valsOf_len (l : List Int) (m : Nat) : (valsOf l m).length = min m l.length + 1 := by unfold valsOf; rw [List.length_cons, List.length_map, List.length_take]
theorem valsOf_step (l : List Int) (k : Nat) (x : Int) (h : l[k]? = some x) : valsOf l (k + 1) = valsOf l k ++ [(pk x 50 : Int) - 20] := by
  unfold valsOf; rw [take_next h, List.map_append]; rfl
end Go.Proofs.YtifpnfhmemdljaaDoor
