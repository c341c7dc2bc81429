/-
  The calls of a run in memory, row by row.
-/
import Derived.Test.YtabmkjokeeakdaaDoorSpent
namespace Go.Proofs.YtabmkjokeeakdaaDoor
open Go.RowKit
set_option linter.unusedVariables false

/-- rows in memory and what they tell -/
structure DsAt (B : Nat) (w : World) (v : Value) (n : Nat) (rs : List (Dg × SV)) : Prop where
  len : rs.length = n
  row : w.ownsRow B 41 5 v n (rs.flatMap gD)
  told : ∀ x ∈ rs, w.ownsRow B 3 1 x.2.v x.1.told.length (x.1.told.flatMap gI)
theorem DsAt.below {B : Nat} {w w' : World} {v : Value} {n : Nat} {rs : List (Dg × SV)} (h : DsAt B w v n rs) (hb : Below w.heap.size w w') : DsAt B w' v n rs := ⟨h.len, own_below h.row hb, fun x hx => own_below (h.told x hx) hb⟩
/-- a call's cells, all five, and what it told -/
theorem DsAt.at_ {B : Nat} {w : World} {A : Option Addr} {n c i : Nat} {rs : List (Dg × SV)} (h : DsAt B w (.slice A n c) n rs) (hi : i < n) :
    ∃ (b : Nat) (d : Dg) (At : Option Addr) (ct : Nat), A = some ⟨b, 0, none⟩ ∧ (rs.map (·.1))[i]? = some d ∧ b < w.heap.size ∧ w.cell? ⟨b, i * 5, none⟩ = some (.int .i64 (d.b : Int)) ∧ w.cell? ⟨b, i * 5 + 1, none⟩ = some (.int .i64 (eI d.e)) ∧ w.cell? ⟨b, i * 5 + 2, none⟩ = some (.int .i64 (d.t : Int)) ∧ w.cell? ⟨b, i * 5 + 3, none⟩ = some (.int .i64 (d.c : Int)) ∧ w.cell? ⟨b, i * 5 + 4, none⟩ = some (.slice At d.told.length ct) ∧
      w.ownsRow B 3 1 (.slice At d.told.length ct) d.told.length (d.told.flatMap gI) := by
  obtain ⟨b, c', e, hb, hc⟩ := own_at h.row (by omega)
  injection e with e1 e2 e3
  subst e1
  have hil : i < rs.length := by rw [h.len]; exact hi
  obtain ⟨x, hx⟩ : ∃ x, rs[i]? = some x := ⟨_, List.getElem?_eq_getElem hil⟩
  have ho := h.told x (List.mem_of_getElem? hx)
  obtain ⟨At, ct, e, _⟩ := own_form ho
  have hat : ∀ j u, j < 5 → (gD x)[j]? = some u → w.cell? ⟨b, i * 5 + j, none⟩ = some u := fun j u hj hu => hc _ _ (by rw [flatMap_at gD 5 (fun _ => rfl) rs i j x hx hj, hu])
  have e1 := hat 1 _ (by decide) rfl
  rw [e] at ho
  refine ⟨b, x.1, At, ct, rfl, by rw [List.getElem?_map, hx]; rfl, World.block_lt_of_cell? w _ e1, hat 0 _ (by decide) rfl, e1, hat 2 _ (by decide) rfl, hat 3 _ (by decide) rfl, hat 4 _ (by decide) (by rw [← e]; rfl), ho⟩
/-- the one number that a call told -/
theorem told_one {B : Nat} {w : World} {At : Option Addr} {ct : Nat} {told : List Int} {v : Int} (h : w.ownsRow B 3 1 (.slice At told.length ct) told.length (told.flatMap gI)) (ht : told = [v]) :
    ∃ bt, At = some ⟨bt, 0, none⟩ ∧ B ≤ bt ∧ w.cell? ⟨bt, 0, none⟩ = some (.int .i64 v) := by
  subst ht
  obtain ⟨b, c', e, hb, hc⟩ := own_at h (by simp)
  injection e with e1 e2 e3
  exact ⟨b, e1, hb, hc 0 _ rfl⟩
end Go.Proofs.YtabmkjokeeakdaaDoor
