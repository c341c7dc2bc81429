/-
  Package cons's machines: what their makers share.
-/
import Derived.Test.YtnoinojhocicjaaDoorInv
import Derived.Test.YtnoinojhocicjaaDoorMachN
import Derived.Test.YtnoinojhocicjaaDoorConsLaw
import Derived.Test.YtnoinojhocicjaaDoorDsAt
import Derived.Test.YtnoinojhocicjaaDoorSched
namespace Go.Proofs.YtnoinojhocicjaaDoor
open Go.RowKit
set_option linter.unusedVariables false

theorem cons_words (w : World) : Calls Tryd.prog 24 #[] w fun e w' => ∃ v, e = .returned v ∧ Ow w w' 3 1 gI v [-1] := by
  go_enter Tryd.func24, Tryd.ntmps24
  go_wp2
  go_ret
  exact ⟨_, rfl, ⟨own_fresh w _ 3 1 1 _ _ rfl (Nat.le_refl _) rfl (by simp [maxLen]), bnew (bnil w) _⟩⟩
theorem cons_sh : ∀ o ∈ consCode, OpSh 4 o := by
  intro o ho
  simp only [consCode, List.mem_cons, List.not_mem_nil, or_false] at ho
  rcases ho with rfl | rfl | rfl | rfl
  · exact ⟨by decide, by decide, by decide, by decide, by decide⟩
  · exact ⟨by decide, by decide, by decide, by decide, by decide⟩
  · exact ⟨by decide, by decide, by decide, by decide, by decide⟩
  · exact ⟨by decide, by decide, by decide, by decide, by decide⟩
/-- a row of one call of one number -/
theorem crow_one {B : Nat} (w : World) (x : Int) (hB : B ≤ w.heap.size) : CRow B ((w.alloc (.cells #[.int .i64 x] 3)).alloc (.cells #[.int .i64 0, .slice (some ⟨w.heap.size, 0, none⟩) 1 1] 46)) (.slice (some ⟨w.heap.size + 1, 0, none⟩) 1 1) [⟨0, [x]⟩] [⟨some ⟨w.heap.size, 0, none⟩, 1, 1⟩] := by
  have h1 : (w.alloc (.cells #[.int .i64 x] 3)).heap.size = w.heap.size + 1 := by simp
  refine ⟨rfl, own_fresh _ _ 46 2 1 _ B h1 (by omega) rfl (by simp [maxLen]), fun k c v hk hv => ?_⟩
  rw [List.getElem?_singleton] at hk hv
  split at hk
  · rename_i h; rw [if_pos h] at hv
    injection hk with hk; injection hv with hv
    subst hk hv
    exact own_below (own_fresh w #[.int .i64 x] 3 1 1 _ B rfl hB rfl (by simp [maxLen])) (bnew (bnil _) _)
  · cases hk
theorem MN.fresh {B : Nat} {w w' : World} {nc nt : Nat} {Cb T : Nat} {cv : Nat → Value} {ks : Nat → List Op5} {tv : Nat → Value} {th : Nat → List VCall} {av : Nat → List SV} (h : MN B w nc nt Cb T cv ks tv th av) {j : Nat} (hj : j < nt) (hb : Below w.heap.size w w') {v' : Value} {cs : List VCall} {vs : List SV} (hv : ∃ b, v'.ownBlock = some b ∧ w.heap.size ≤ b) (hr : CRow B w' v' cs vs) :
    MN B (w'.setCell ⟨T, j, none⟩ v') nc nt Cb T cv ks (upd tv j v') (upd th j cs) (upd av j vs) :=
  h.put hj ⟨hb.os, hb.tape, hb.output, hb.size, fun k hk _ => hb.block k hk⟩ (.inr (.inr hv)) hr
theorem sees2s {W : World} {p q : Addr} {u x : Value} (hp : W.cell? p = some u) (hq : W.cell? q = some x) (hf : W.frozen? q = false) (hn : q.block ≠ p.block) (v : Value) (o1 o2 : Obj) : ((((W.setCell q v).alloc o1).alloc o2).drew).cell? p = some u ∧ ((((W.setCell q v).alloc o1).alloc o2).drew).frozen? q = false := by
  have hb : Below (W.setCell q v).heap.size (W.setCell q v) ((((W.setCell q v).alloc o1).alloc o2).drew) := (bnew (bnew (bnil _) _) _).drew
  have h1 : (W.setCell q v).cell? p = some u := by rw [World.cell?_setCell_other _ _ _ _ (fun e => hn (by rw [e]))]; exact hp
  have h2 : (W.setCell q v).cell? q = some v := World.cell?_setCell_same _ _ _ hq
  exact ⟨cell_below hb h1, frozen_below hb h2 (by rw [World.frozen?_setCell]; exact hf)⟩
end Go.Proofs.YtnoinojhocicjaaDoor
