/-
  Small lemmas about cells, for makers of machines.
-/
import Derived.Test.YtabmkjokeeakdaaDoorMBun
namespace Go.Proofs.YtabmkjokeeakdaaDoor
open Go.RowKit
set_option linter.unusedVariables false

theorem keep16 {w w' : World} {p0 p1 p2 r0 r1 r2 : Addr} {u0 u1 u2 v0 v1 v2 : Value} (b : Below w.heap.size w w') (y0 : w.cell? p0 = some u0) (y1 : w.cell? p1 = some u1) (y2 : w.cell? p2 = some u2) (z0 : w.frozen? r0 = false) (z1 : w.frozen? r1 = false) (z2 : w.frozen? r2 = false) (z3 : w.cell? r0 = some v0) (z4 : w.cell? r1 = some v1) (z5 : w.cell? r2 = some v2) :
    w'.cell? p0 = some u0 ∧ w'.cell? p1 = some u1 ∧ w'.cell? p2 = some u2 ∧ w'.frozen? r0 = false ∧ w'.frozen? r1 = false ∧ w'.frozen? r2 = false ∧ w'.cell? r0 = some v0 ∧ w'.cell? r1 = some v1 ∧ w'.cell? r2 = some v2 :=
  ⟨cell_below b y0, cell_below b y1, cell_below b y2, frozen_below b z3 z0, frozen_below b z4 z1, frozen_below b z5 z2, cell_below b z3, cell_below b z4, cell_below b z5⟩
theorem keep16s {w : World} {X R : Nat} {u0 u1 u2 : Value} (hne : X ≠ R) (y0 : w.cell? ⟨X, 0, none⟩ = some u0) (y1 : w.cell? ⟨X, 1, none⟩ = some u1) (y2 : w.cell? ⟨X, 2, none⟩ = some u2) (z0 : w.frozen? ⟨R, 0, none⟩ = false) (z1 : w.frozen? ⟨R, 1, none⟩ = false) (z2 : w.frozen? ⟨R, 2, none⟩ = false) (a b c : Value) :
    (((w.setCell ⟨R, 0, none⟩ a).setCell ⟨R, 1, none⟩ b).setCell ⟨R, 2, none⟩ c).cell? ⟨X, 0, none⟩ = some u0 ∧ (((w.setCell ⟨R, 0, none⟩ a).setCell ⟨R, 1, none⟩ b).setCell ⟨R, 2, none⟩ c).cell? ⟨X, 1, none⟩ = some u1 ∧ (((w.setCell ⟨R, 0, none⟩ a).setCell ⟨R, 1, none⟩ b).setCell ⟨R, 2, none⟩ c).cell? ⟨X, 2, none⟩ = some u2 ∧
    (((w.setCell ⟨R, 0, none⟩ a).setCell ⟨R, 1, none⟩ b).setCell ⟨R, 2, none⟩ c).frozen? ⟨R, 0, none⟩ = false ∧ (((w.setCell ⟨R, 0, none⟩ a).setCell ⟨R, 1, none⟩ b).setCell ⟨R, 2, none⟩ c).frozen? ⟨R, 1, none⟩ = false ∧ (((w.setCell ⟨R, 0, none⟩ a).setCell ⟨R, 1, none⟩ b).setCell ⟨R, 2, none⟩ c).frozen? ⟨R, 2, none⟩ = false := by
  refine ⟨?_, ?_, ?_, ?_, ?_, ?_⟩
  · rw [World.cell?_setCell_far, World.cell?_setCell_far, World.cell?_setCell_far] <;> first | exact y0 | exact fun e => hne e.symm
  · rw [World.cell?_setCell_far, World.cell?_setCell_far, World.cell?_setCell_far] <;> first | exact y1 | exact fun e => hne e.symm
  · rw [World.cell?_setCell_far, World.cell?_setCell_far, World.cell?_setCell_far] <;> first | exact y2 | exact fun e => hne e.symm
  · simp only [World.frozen?_setCell]; exact z0
  · simp only [World.frozen?_setCell]; exact z1
  · simp only [World.frozen?_setCell]; exact z2
theorem sees4f {W w' : World} {p q r s : Addr} {u v x y : Value} (h : Below W.heap.size W w') (hp : W.cell? p = some u) (hq : W.cell? q = some v) (hf : W.frozen? q = false) (hr : W.cell? r = some x) (hs : W.cell? s = some y) : w'.cell? p = some u ∧ w'.frozen? q = false ∧ w'.cell? r = some x ∧ w'.cell? s = some y := ⟨cell_below h hp, frozen_below h hq hf, cell_below h hr, cell_below h hs⟩
end Go.Proofs.YtabmkjokeeakdaaDoor
