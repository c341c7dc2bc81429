/-
  Package cons's machines: what their makers share.
-/
import Derived.Test.YtnoinojhocicjaaDoorInv
import Derived.Test.YtnoinojhocicjaaDoorMachN
import Derived.Test.YtnoinojhocicjaaDoorConsLaw
import Derived.Test.YtnoinojhocicjaaDoorDsAt
import Derived.Test.YtnoinojhocicjaaDoorSched
namespace Go.Proofs.YtnoinojhocicjaaDoor
open Go.RowKit
set_option linter.unusedVariables false

theorem cons_words (w : World) : Calls Tryd.prog 24 #[] w fun e w' => ∃ v, e = .returned v ∧ Ow w w' 3 1 gI v [-1] := by
  go_enter Tryd.func24, Tryd.ntmps24
  go_wp2
  go_ret
  exact ⟨_, rfl, ⟨own_fresh w _ 3 1 1 _ _ rfl (Nat.le_refl _) rfl (by simp [maxLen]), bnew (bnil w) _⟩⟩
theorem cons_sh : ∀ o ∈ consCode, OpSh 4 o := by
  intro o ho
  simp only [consCode, List.mem_cons, List.not_mem_nil, or_false] at ho
  rcases ho with rfl | rfl | rfl | rfl
  · exact ⟨by decide, by decide, by decide, by decide, by decide⟩
  · exact ⟨by decide, by decide, by decide, by decide, by decide⟩
  · exact ⟨by decide, by decide, by decide, by decide, by decide⟩
  · exact ⟨by decide, by decide, by decide, by decide, by decide⟩
/-- a row of one call of one number -/
theorem crow_one {B : Nat} (w : World) (x : Int) (hB : B ≤ w.heap.size) : CRow B ((w.alloc (.cells #[.int .i64 x] 3)).alloc (.cells #[.int .i64 0, .slice (some ⟨w.heap.size, 0, none⟩) 1 1] 46)) (.slice (some ⟨w.heap.size + 1, 0, none⟩) 1 1) [⟨0, [x]⟩] [⟨some ⟨w.heap.size, 0, none⟩, 1, 1⟩] := by
  have h1 : (w.alloc (.cells #[.int .i64 x] 3)).heap.size = w.heap.size + 1 := by simp
  refine ⟨rfl, own_fresh _ _ 46 2 1 _ B h1 (by omega) rfl (by simp [maxLen]), fun k c v hk hv => ?_⟩
  rw [List.getElem?_singleton] at hk hv
  split at hk
  · rename_i h; rw [if_pos h] at hv
    injection hk with hk; injection hv with hv
    subst hk hv
    exact own_below (own_fresh w #[.int .i64 x] 3 1 1 _ B rfl hB rfl (by simp [maxLen])) (bnew (bnil _) _)
  · cases hk
theorem MN.fresh {B : Nat} {w w' : World} {nc nt : Nat} {Cb T : Nat} {cv : Nat → Value} {ks : Nat → List Op5} {tv : Nat → Value} {th : Nat → List VCall} {av : Nat → List SV} (h : MN B w nc nt Cb T cv ks tv th av) {j : Nat} (hj : j < nt) (hb : Below w.heap.size w w') {v' : Value} {cs : List VCall} {vs : List SV} (hv : ∃ b, v'.ownBlock = some b ∧ w.heap.size ≤ b) (hr : CRow B w' v' cs vs) :
    MN B (w'.setCell ⟨T, j, none⟩ v') nc nt Cb T cv ks (upd tv j v') (upd th j cs) (upd av j vs) :=
  h.put hj ⟨hb.os, hb.tape, hb.output, hb.size, fun k hk _ => hb.block k hk⟩ (.inr (.inr hv)) hr
theorem sees2s {W : World} {p q : Addr} {u x : Value} (hp : W.cell? p = some u) (hq : W.cell? q = some x) (hf : W.frozen? q = false) (hn : q.block ≠ p.block) (v : Value) (o1 o2 : Obj) : ((((W.setCell q v).alloc o1).alloc o2).drew).cell? p = some u ∧ ((((W.setCell q v).alloc o1).alloc o2).drew).frozen? q = false := by
  have hb : Below (W.setCell q v).heap.size (W.setCell q v) ((((W.setCell q v).alloc o1).alloc o2).drew) := (bnew (bnew (bnil _) _) _).drew
  have h1 : (W.setCell q v).cell? p = some u := by rw [World.cell?_setCell_other _ _ _ _ (fun e => hn (by rw [e]))]; exact hp
  have h2 : (W.setCell q v).cell? q = some v := World.cell?_setCell_same _ _ _ hq
  exact ⟨cell_below hb h1, frozen_below hb h2 (by rw [World.frozen?_setCell]; exact hf)⟩
/-- a call of one number, in its row -/
theorem CRow.at_ {B : Nat} {w : World} {tv : Value} {calls : List VCall} {avs : List SV} {c : Nat} {x : Int} (h : CRow B w tv calls avs) (hc : calls[c]? = some ⟨0, [x]⟩) :
    ∃ br cr ba ca, tv = .slice (some ⟨br, 0, none⟩) calls.length cr ∧ w.cell? ⟨br, c * 2, none⟩ = some (.int .i64 0) ∧ w.cell? ⟨br, c * 2 + 1, none⟩ = some (.slice (some ⟨ba, 0, none⟩) 1 ca) ∧ w.cell? ⟨ba, 0, none⟩ = some (.int .i64 x) := by
  obtain ⟨h1, h2, h3⟩ := h
  have hl := (List.getElem?_eq_some_iff.1 hc).1
  obtain ⟨a, ha⟩ : ∃ a, avs[c]? = some a := ⟨_, List.getElem?_eq_getElem (by rw [h1]; exact hl)⟩
  obtain ⟨br, cr, e, _, hcell⟩ := own_at h2 (by omega)
  have hz : (calls.zip avs)[c]? = some (⟨0, [x]⟩, a) := by rw [List.getElem?_zip_eq_some]; exact ⟨hc, ha⟩
  have hat : ∀ j u, j < 2 → (gS (⟨0, [x]⟩, a))[j]? = some u → w.cell? ⟨br, c * 2 + j, none⟩ = some u := fun j u hj hu => hcell _ _ (by rw [flatMap_at gS 2 (fun _ => rfl) (calls.zip avs) c j _ hz hj, hu])
  obtain ⟨ba, ca, e2, _, hc2⟩ := own_at (h3 c _ a hc ha) (by simp)
  refine ⟨br, cr, ba, ca, e, hat 0 _ (by decide) rfl, hat 1 _ (by decide) ?_, hc2 0 _ rfl⟩
  show some (a.v) = _
  rw [e2]; rfl
theorem sees6 {W w' : World} {p1 p2 p3 p4 p5 p6 : Addr} {u1 u2 u3 u4 u5 u6 : Value} (h : Below W.heap.size W w') (h1 : W.cell? p1 = some u1) (h2 : W.cell? p2 = some u2) (h3 : W.cell? p3 = some u3) (h4 : W.cell? p4 = some u4) (h5 : W.cell? p5 = some u5) (h6 : W.cell? p6 = some u6) :
    w'.cell? p1 = some u1 ∧ w'.cell? p2 = some u2 ∧ w'.cell? p3 = some u3 ∧ w'.cell? p4 = some u4 ∧ w'.cell? p5 = some u5 ∧ w'.cell? p6 = some u6 := ⟨cell_below h h1, cell_below h h2, cell_below h h3, cell_below h h4, cell_below h h5, cell_below h h6⟩
end Go.Proofs.YtnoinojhocicjaaDoor
