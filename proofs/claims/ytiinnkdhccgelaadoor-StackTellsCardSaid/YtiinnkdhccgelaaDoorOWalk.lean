/-
  What laws about queues and stacks read in memory.
-/
import Derived.Test.YtiinnkdhccgelaaDoorODef
import Derived.Test.YtiinnkdhccgelaaDoorSched
import Derived.Test.YtiinnkdhccgelaaDoorDsAt
import Derived.Deep.RegionHeld
namespace Go.Proofs.YtiinnkdhccgelaaDoor
open Go.RowKit
set_option linter.unusedVariables false

abbrev gBo : Bool → List Value := fun b => [.bool b]
theorem gBo_one (x : Bool) : ∀ u ∈ gBo x, u.oneCell' = true := by intro u hu; simp at hu; subst hu; rfl
theorem elmBo : Elm Tryd.prog 49 4 1 1 := elm_of (z := .bool false) Tryd.underlying49 (by kernel_rfl) rfl (by decide)
theorem cells3 {w w' : World} {p q r : Addr} {a b c : Value} (h : Below w.heap.size w w') (hp : w.cell? p = some a) (hq : w.cell? q = some b) (hr : w.cell? r = some c) : w'.cell? p = some a ∧ w'.cell? q = some b ∧ w'.cell? r = some c := ⟨cell_below h hp, cell_below h hq, cell_below h hr⟩
/-- the code of a call, in memory -/
theorem o_codeAt {B : Nat} {w : World} {nc nt : Nat} {Cb T : Nat} {cv tv : Nat → Value} {ks : Nat → List Op5} {th : Nat → List VCall} {av : Nat → List SV} (h : MN B w nc nt Cb T cv ks tv th av) {t c : Nat} {x : VCall} (ht : t < nt) (hc : (th t)[c]? = some x) :
    ∃ (bt ct : Nat) (ax : SV), w.cell? ⟨T, t, none⟩ = some (.slice (some ⟨bt, 0, none⟩) (th t).length ct) ∧ w.cell? ⟨bt, c * 2, none⟩ = some (.int .i64 (x.code : Int)) ∧ w.cell? ⟨bt, c * 2 + 1, none⟩ = some ax.v ∧ w.ownsRow B 3 1 ax.v x.args.length (x.args.flatMap gI) := by
  obtain ⟨r1, r2, r3⟩ := h.rows t ht
  obtain ⟨A, c', e, _⟩ := own_form r2
  have hcl := (List.getElem?_eq_some_iff.1 hc).1
  rw [e] at r2
  obtain ⟨b, c'', e2, _, hcell⟩ := own_at r2 (by omega)
  injection e2 with e2 e3 e4
  subst e2
  have hl : c < (av t).length := by rw [r1]; exact hcl
  have hav : (av t)[c]? = some (av t)[c] := List.getElem?_eq_getElem hl
  have hz : ((th t).zip (av t))[c]? = some (x, (av t)[c]) := by
    rw [List.getElem?_zip_eq_some]
    exact ⟨hc, hav⟩
  refine ⟨b, c', (av t)[c], by rw [h.tb.cell t, arrN_at tv ht, e], ?_, ?_, r3 c x _ hc hav⟩
  · have h := flatMap_at gS 2 (fun _ => rfl) _ c 0 _ hz (by decide)
    rw [Nat.add_zero] at h
    exact hcell (c * 2) _ (by rw [h]; rfl)
  · have h := flatMap_at gS 2 (fun _ => rfl) _ c 1 _ hz (by decide)
    exact hcell (c * 2 + 1) _ (by rw [h]; rfl)
end Go.Proofs.YtiinnkdhccgelaaDoor
