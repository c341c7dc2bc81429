/-
  ZigSum: a code has as many bits as Size says; its walk.
-/
import Derived.Test.YtpoaomjpbjcmbaaDoorZigEnc
namespace Go.Proofs.YtpoaomjpbjcmbaaDoor
open Go.RowKit
set_option linter.unusedVariables false

def smalls (l : List Int) : List Int := l.map (· / 32)
theorem smalls_ok (l : List Int) (h : ∀ x ∈ l, -9223372036854775808 ≤ x ∧ x ≤ 9223372036854775807) : ∀ x ∈ smalls l, ZSmall x := by
  intro x hx
  obtain ⟨y, hy, rfl⟩ := List.mem_map.1 hx
  have := h y hy
  exact ⟨by show _ ≤ y / 32; omega, by show y / 32 < _; omega⟩
theorem zcodes_snoc (l : List Int) (x : Int) : (zcodes (l ++ [x])).length = (zcodes l).length + zsize x := by
  unfold zcodes
  rw [List.flatMap_append, List.length_append]
  simp [zcode_size]
end Go.Proofs.YtpoaomjpbjcmbaaDoor
