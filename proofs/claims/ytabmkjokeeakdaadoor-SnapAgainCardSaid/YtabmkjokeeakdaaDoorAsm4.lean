/-
  Package asm: Goto and Done: their walks. Written by gen_asm4.py.
-/
import Derived.Test.YtabmkjokeeakdaaDoorAsm3
import Derived.Deep.RegionHeld
namespace Go.Proofs.YtabmkjokeeakdaaDoor
open Go.RowKit Go.Maps
set_option linter.unusedVariables false

set_option maxHeartbeats 1000000 in
theorem asm_done (B g : Nat) (a : AC) (w : World) (hB : B ≤ w.heap.size) (hl2 : a.ops.length ≤ 900) (h : ACat B w g a) :
    Calls Tryd.prog 49 #[.pointer (some ⟨g, 0, none⟩)] w fun e w' => AsmPost B g w (.pointer (some ⟨g, 0, none⟩)) (adone a) e w' := by
  have HA := hid h; clear h
  go_enter Tryd.func49, Tryd.ntmps49
  go_wp2_with fail
  refine (asm_op B g a ⟨17, 0, 0, 0, 0⟩ w hB (by omega) HA.out).mono ?_
  rintro e w9 hp9
  obtain ⟨rfl, k9, b9, z9⟩ := hp9
  go_wp2
  go_ret
  exact ⟨rfl, k9, b9, z9⟩
set_option maxHeartbeats 2000000 in
set_option maxRecDepth 100000 in
theorem asm_goto (B g : Nat) (a : AC) (p : Nm) (w : World) (hB : B ≤ w.heap.size) (hp : p.length ≤ 100) (hl2 : a.ops.length ≤ 900) (hl4 : a.gotos.length ≤ 900) (h : ACat B w g a) :
    Calls Tryd.prog 67 #[.pointer (some ⟨g, 0, none⟩), .string ⟨p.toArray⟩] w fun e w' => AsmPost B g w (.pointer (some ⟨g, 0, none⟩)) (agoto p a) e w' := by
  obtain ⟨ov, gv, bm, br, h0⟩ := h
  obtain ⟨Ao, co, rfl, _, _⟩ := own_form h0.ops
  have HX := hid h0
  have HBX := hid hB
  obtain ⟨y, hy⟩ : ∃ y, a.gotos ++ [(a.ops.length, p)] = y := ⟨_, rfl⟩
  have HY := hid hy
  have HYL := hid (show y.length = a.gotos.length + 1 by rw [← hy, List.length_append]; rfl)
  have hS : ∀ w' v2, Blk w' g 111 #[.slice Ao a.ops.length co, .map (some bm), v2, .map (some br)] → w'.cell? ⟨g, 0, none⟩ = some (.slice Ao a.ops.length co) ∧ w'.frozen? ⟨g, 2, none⟩ = false := fun w' v2 hb => ⟨hb.cell 0, hb.frozen 2⟩
  have HS0 := hid (fun w' (hb : Below w.heap.size w w') => hS w' _ (HX.out.blk.below' hb))
  have HGW := hid (fun wA w6 (hb : Below w.heap.size w wA) (hG : wA.grownBy w6 gv.ownBlock) => show _ ∧ w6.cell? ⟨g, 2, none⟩ = some gv ∧ _ from by
    have hc := Chg.of_grown hG (M := fun k => gv.ownBlock = some k) (fun k e => e)
    have b2 := hc.blk ((HX.out.below hb).blk) (own_ne_blk (HX.out.below hb).gts (HX.out.below hb).blk (by decide))
    exact ⟨hS w6 _ b2, b2.cell 2, fun v => hS _ _ (b2.set_ 2 v)⟩)
  have c0 : w.cell? ⟨g, 0, none⟩ = some (.slice Ao a.ops.length co) := HX.out.blk.cell 0
  have c2 : w.cell? ⟨g, 2, none⟩ = some gv := HX.out.blk.cell 2
  have f2 : w.frozen? ⟨g, 2, none⟩ = false := HX.out.blk.frozen 2
  have lg := HX.out.blk.lt
  clear hS hy h0
  go_enter Tryd.func67, Tryd.ntmps67
  go_wp2_with fail
  refine wp_region_held_drew (S := (fun w' => w'.cell? ⟨g, 0, none⟩ = some (.slice Ao a.ops.length co) ∧ w'.frozen? ⟨g, 2, none⟩ = false)) (by kernel_rfl) ?_ (fun hHeld => ?_)
  · (try dsimp only); (first | assumption | exact HZ.1 | exact HZ.2.2 _ | exact HS0.out _ (bnil _).drew | exact HS0.out _ (bnew (bnil _) _).drew)
  refine wpAnyH_take (i := 0) (oi := ⟨some 5, _, _, _, _, _⟩) (v := ?_) rfl (by kernel_rfl) (by kernel_rfl) (by kernel_rfl) (fun _ _ _ h => h) (Or.inl ⟨by rfl, ?_⟩) (by assumption) ?_
  rotate_left
  · intro w hSw; (try dsimp only at hSw); go_simp <;> with_reducible rfl
  try simp only [Act.put, List.setIfInBounds_toArray, List.set_cons_zero, List.set_cons_succ]
  refine wpAnyH_take (i := 1) (oi := ⟨some 6, _, _, _, _, _⟩) (v := ?_) rfl (by kernel_rfl) (by kernel_rfl) (by kernel_rfl) (fun _ _ _ h => h) (Or.inl ⟨by rfl, ?_⟩) (by assumption) ?_
  rotate_left
  · intro w hSw; (try dsimp only at hSw); go_simp <;> with_reducible rfl
  try simp only [Act.put, List.setIfInBounds_toArray, List.set_cons_zero, List.set_cons_succ]
  refine wpAnyH_take (i := 2) (oi := ⟨some 7, _, _, _, _, _⟩) (v := ?_) rfl (by kernel_rfl) (by kernel_rfl) (by kernel_rfl) (fun _ _ _ h => h) (Or.inl ⟨by rfl, ?_⟩) (by assumption) ?_
  rotate_left
  · intro w hSw; (try dsimp only at hSw); go_simp <;> with_reducible rfl
  try simp only [Act.put, List.setIfInBounds_toArray, List.set_cons_zero, List.set_cons_succ]
  refine wpAnyH_take (i := 3) (oi := ⟨some 8, _, _, _, _, _⟩) (v := ?_) rfl (by kernel_rfl) (by kernel_rfl) (by kernel_rfl) (fun _ _ _ h => h) (Or.inl ⟨by rfl, ?_⟩) (by assumption) ?_
  rotate_left
  · intro w hSw; (try dsimp only at hSw); go_simp <;> with_reducible rfl
  try simp only [Act.put, List.setIfInBounds_toArray, List.set_cons_zero, List.set_cons_succ]
  refine wpAnyH_take (i := 5) (oi := ⟨some 10, _, _, _, _, _⟩) (v := ?_) rfl (by kernel_rfl) (by kernel_rfl) (by kernel_rfl) (fun _ _ _ h => h) (Or.inl ⟨by rfl, ?_⟩) (by assumption) ?_
  rotate_left
  · intro w hSw; (try dsimp only at hSw); go_simp <;> with_reducible rfl
  try simp only [Act.put, List.setIfInBounds_toArray, List.set_cons_zero, List.set_cons_succ]
  refine wpAnyH_take (i := 6) (oi := ⟨some 11, _, _, _, _, _⟩) (v := ?_) rfl (by kernel_rfl) (by kernel_rfl) (by kernel_rfl) (fun _ _ _ h => h) (Or.inl ⟨by rfl, ?_⟩) (by assumption) ?_
  rotate_left
  · intro w hSw; (try dsimp only at hSw); go_simp <;> with_reducible rfl
  try simp only [Act.put, List.setIfInBounds_toArray, List.set_cons_zero, List.set_cons_succ]
  refine wpAnyH_take (i := 7) (oi := ⟨some 12, _, _, _, _, _⟩) (v := ?_) rfl (by kernel_rfl) (by kernel_rfl) (by kernel_rfl) (fun _ _ _ h => h) (Or.inl ⟨by rfl, ?_⟩) (by assumption) ?_
  rotate_left
  · intro w hSw; (try dsimp only at hSw); go_simp <;> with_reducible rfl
  try simp only [Act.put, List.setIfInBounds_toArray, List.set_cons_zero, List.set_cons_succ]
  refine wpAnyH_take (i := 8) (oi := ⟨some 13, _, _, _, _, _⟩) (v := ?_) rfl (by kernel_rfl) (by kernel_rfl) (by kernel_rfl) (fun _ _ _ h => h) (Or.inl ⟨by rfl, ?_⟩) (by assumption) ?_
  rotate_left
  · intro w hSw; (try dsimp only at hSw); go_simp <;> with_reducible rfl
  try simp only [Act.put, List.setIfInBounds_toArray, List.set_cons_zero, List.set_cons_succ]
  refine wpAnyH_take (i := 9) (oi := ⟨some 14, _, _, _, _, _⟩) (v := ?_) rfl (by kernel_rfl) (by kernel_rfl) (by kernel_rfl) (fun _ _ _ h => h) (Or.inl ⟨by rfl, ?_⟩) (by assumption) ?_
  rotate_left
  · intro w hSw; (try dsimp only at hSw); go_simp <;> with_reducible rfl
  try simp only [Act.put, List.setIfInBounds_toArray, List.set_cons_zero, List.set_cons_succ]
  refine wpAnyH_take (i := 10) (oi := ⟨some 15, _, _, _, _, _⟩) (v := ?_) rfl (by kernel_rfl) (by kernel_rfl) (by kernel_rfl) (fun _ _ _ h => h) (Or.inl ⟨by rfl, ?_⟩) (by assumption) ?_
  rotate_left
  · intro w hSw; (try dsimp only at hSw); go_simp <;> with_reducible rfl
  try simp only [Act.put, List.setIfInBounds_toArray, List.set_cons_zero, List.set_cons_succ]
  refine wpAnyH_take (i := 11) (oi := ⟨some 16, _, _, _, _, _⟩) (v := ?_) rfl (by kernel_rfl) (by kernel_rfl) (by kernel_rfl) (fun _ _ _ h => h) (Or.inl ⟨by rfl, ?_⟩) (by assumption) ?_
  rotate_left
  · intro w hSw; (try dsimp only at hSw); go_simp <;> with_reducible rfl
  try simp only [Act.put, List.setIfInBounds_toArray, List.set_cons_zero, List.set_cons_succ]
  refine wpAnyH_ready (rs := [4, 12]) (by kernel_rfl) (by simp) ?_
  refine AllReadyH.cons (o := ⟨some 9, _, _, _, _, _⟩) rfl (fun K hK => ?_) ?_
  go_simp
  refine hK.out _ _ ?_ (fun hHeld => ?_)
  · (try dsimp only); (first | assumption | exact HZ.1 | exact HZ.2.2 _ | exact HS0.out _ (bnil _).drew | exact HS0.out _ (bnew (bnil _) _).drew)
  clear hK K
  try simp only [Act.put, List.setIfInBounds_toArray, List.set_cons_zero, List.set_cons_succ]
  refine wpAnyH_ready (rs := [12]) (by kernel_rfl) (by simp) ?_
  refine AllReadyH.cons (o := ⟨some 17, _, _, _, _, _⟩) rfl (fun K hK => ?_) AllReadyH.nil
  go_simp
  refine hK.out _ _ ?_ (fun hHeld => ?_)
  · (try dsimp only); (first | assumption | exact HZ.1 | exact HZ.2.2 _ | exact HS0.out _ (bnil _).drew | exact HS0.out _ (bnew (bnil _) _).drew)
  clear hK K
  try simp only [Act.put, List.setIfInBounds_toArray, List.set_cons_zero, List.set_cons_succ]
  refine wpAnyH_ready (rs := [13]) (by kernel_rfl) (by simp) ?_
  refine AllReadyH.cons (o := ⟨some 18, _, _, _, _, _⟩) rfl (fun K hK => ?_) AllReadyH.nil
  (refine step_appC elmJ gJ_one rfl (.tmp 9) (.tmp 17) rfl gv a.gotos rfl (own_below HX.out.gts (bnew (bnil _) _).drew) [(a.ops.length, p)] y HY rfl (Sl.drew (Sl.fresh' _ #[_, _] 113 2 1 _ rfl rfl)) rfl (by rw [HYL.out]; simp only [maxLen]; omega) (by rw [HYL.out]; omega) (Nat.le_trans HBX.out (bnew (bnil _) _).drew.size) ?_; intro E6 c6 w6 hc6 hc7 HN6 HG6 HO6; have HZ := HGW.out _ w6 (bnew (bnil _) _).drew HG6.out)
  refine hK.out _ _ ?_ (fun hHeld => ?_)
  · (try dsimp only); (first | assumption | exact HZ.1 | exact HZ.2.2 _ | exact HS0.out _ (bnil _).drew | exact HS0.out _ (bnew (bnil _) _).drew)
  clear hK K
  try simp only [Act.put, List.setIfInBounds_toArray, List.set_cons_zero, List.set_cons_succ]
  refine wpAnyH_take (i := 14) (oi := ⟨some 19, _, _, _, _, _⟩) (v := ?_) rfl (by kernel_rfl) (by kernel_rfl) (by kernel_rfl) (fun _ _ _ h => h) (Or.inl ⟨by rfl, ?_⟩) (by assumption) ?_
  rotate_left
  · intro w hSw; (try dsimp only at hSw); go_simp <;> with_reducible rfl
  try simp only [Act.put, List.setIfInBounds_toArray, List.set_cons_zero, List.set_cons_succ]
  refine wpAnyH_take (i := 15) (oi := ⟨some 20, _, _, _, _, _⟩) (v := ?_) rfl (by kernel_rfl) (by kernel_rfl) (by kernel_rfl) (fun _ _ _ h => h) (Or.inl ⟨by rfl, ?_⟩) (by assumption) ?_
  rotate_left
  · intro w hSw; (try dsimp only at hSw); go_simp <;> with_reducible rfl
  try simp only [Act.put, List.setIfInBounds_toArray, List.set_cons_zero, List.set_cons_succ]
  refine wpAnyH_ready (rs := [16]) (by kernel_rfl) (by simp) ?_
  refine AllReadyH.cons (o := ⟨none, _, _, _, _, _⟩) rfl (fun K hK => ?_) AllReadyH.nil
  go_simp
  refine hK.out _ _ ?_ (fun hHeld => ?_)
  · (try dsimp only); (first | assumption | exact HZ.1 | exact HZ.2.2 _ | exact HS0.out _ (bnil _).drew | exact HS0.out _ (bnew (bnil _) _).drew)
  clear hK K
  try dsimp only [Act.put]
  refine wpAnyH_done (by kernel_rfl) ?_ _
  rotate_left
  refine AllReadyH.cons (o := ⟨some 17, _, _, _, _, _⟩) rfl (fun K hK => ?_) AllReadyH.nil
  go_simp
  refine hK.out _ _ ?_ (fun hHeld => ?_)
  · (try dsimp only); (first | assumption | exact HZ.1 | exact HZ.2.2 _ | exact HS0.out _ (bnil _).drew | exact HS0.out _ (bnew (bnil _) _).drew)
  clear hK K
  try simp only [Act.put, List.setIfInBounds_toArray, List.set_cons_zero, List.set_cons_succ]
  refine wpAnyH_ready (rs := [4]) (by kernel_rfl) (by simp) ?_
  refine AllReadyH.cons (o := ⟨some 9, _, _, _, _, _⟩) rfl (fun K hK => ?_) AllReadyH.nil
  go_simp
  refine hK.out _ _ ?_ (fun hHeld => ?_)
  · (try dsimp only); (first | assumption | exact HZ.1 | exact HZ.2.2 _ | exact HS0.out _ (bnil _).drew | exact HS0.out _ (bnew (bnil _) _).drew)
  clear hK K
  try simp only [Act.put, List.setIfInBounds_toArray, List.set_cons_zero, List.set_cons_succ]
  refine wpAnyH_ready (rs := [13]) (by kernel_rfl) (by simp) ?_
  refine AllReadyH.cons (o := ⟨some 18, _, _, _, _, _⟩) rfl (fun K hK => ?_) AllReadyH.nil
  (refine step_appC elmJ gJ_one rfl (.tmp 9) (.tmp 17) rfl gv a.gotos rfl (own_below HX.out.gts (bnew (bnil _) _).drew) [(a.ops.length, p)] y HY rfl (Sl.drew (Sl.fresh' _ #[_, _] 113 2 1 _ rfl rfl)) rfl (by rw [HYL.out]; simp only [maxLen]; omega) (by rw [HYL.out]; omega) (Nat.le_trans HBX.out (bnew (bnil _) _).drew.size) ?_; intro E6 c6 w6 hc6 hc7 HN6 HG6 HO6; have HZ := HGW.out _ w6 (bnew (bnil _) _).drew HG6.out)
  refine hK.out _ _ ?_ (fun hHeld => ?_)
  · (try dsimp only); (first | assumption | exact HZ.1 | exact HZ.2.2 _ | exact HS0.out _ (bnil _).drew | exact HS0.out _ (bnew (bnil _) _).drew)
  clear hK K
  try simp only [Act.put, List.setIfInBounds_toArray, List.set_cons_zero, List.set_cons_succ]
  refine wpAnyH_take (i := 14) (oi := ⟨some 19, _, _, _, _, _⟩) (v := ?_) rfl (by kernel_rfl) (by kernel_rfl) (by kernel_rfl) (fun _ _ _ h => h) (Or.inl ⟨by rfl, ?_⟩) (by assumption) ?_
  rotate_left
  · intro w hSw; (try dsimp only at hSw); go_simp <;> with_reducible rfl
  try simp only [Act.put, List.setIfInBounds_toArray, List.set_cons_zero, List.set_cons_succ]
  refine wpAnyH_take (i := 15) (oi := ⟨some 20, _, _, _, _, _⟩) (v := ?_) rfl (by kernel_rfl) (by kernel_rfl) (by kernel_rfl) (fun _ _ _ h => h) (Or.inl ⟨by rfl, ?_⟩) (by assumption) ?_
  rotate_left
  · intro w hSw; (try dsimp only at hSw); go_simp <;> with_reducible rfl
  try simp only [Act.put, List.setIfInBounds_toArray, List.set_cons_zero, List.set_cons_succ]
  refine wpAnyH_ready (rs := [16]) (by kernel_rfl) (by simp) ?_
  refine AllReadyH.cons (o := ⟨none, _, _, _, _, _⟩) rfl (fun K hK => ?_) AllReadyH.nil
  go_simp
  refine hK.out _ _ ?_ (fun hHeld => ?_)
  · (try dsimp only); (first | assumption | exact HZ.1 | exact HZ.2.2 _ | exact HS0.out _ (bnil _).drew | exact HS0.out _ (bnew (bnil _) _).drew)
  clear hK K
  try dsimp only [Act.put]
  refine wpAnyH_done (by kernel_rfl) ?_ _
  rotate_left
  all_goals
    have HM := hid (HX.out.goto (p := p) (bnew (bnil _) _).drew HG6.out HY.out HN6.out)
    have b1 := ((bnew (bnil w) (.cells #[.int .i64 (a.ops.length : Int), .string ⟨p.toArray⟩] 113)).drew.mono HBX.out)
    have HB6 := hid ((below_app b1 (own_below HX.out.gts (bnew (bnil _) _).drew) HG6.out (Nat.le_trans HBX.out (bnew (bnil _) _).drew.size)).setCell (p := ⟨g, 2, none⟩) HX.out.ge (.slice E6 y.length c6))
    have bwA := (bnew (bnil w) (.cells #[.int .i64 (a.ops.length : Int), .string ⟨p.toArray⟩] 113)).drew
    have hbk : Blk w6 g 111 #[.slice Ao a.ops.length co, .map (some bm), gv, .map (some br)] := (Chg.of_grown HG6.out (M := fun k => gv.ownBlock = some k) (fun k e => e)).blk ((HX.out.below bwA).blk) (own_ne_blk (HX.out.below bwA).gts ((HX.out.below bwA).blk) (by decide))
    have HKP := hid ((Keeps.below bwA).trans ((Keeps.row (own_below HX.out.gts bwA) (.inr rfl) HG6.out).trans (Keeps.set_ hbk 2 (.slice E6 y.length c6))))
    clear b1 hbk bwA
    obtain ⟨w7, hw7⟩ : ∃ w7, w6.setCell ⟨g, 2, none⟩ (.slice E6 y.length c6) = w7 := ⟨_, rfl⟩
    rw [hw7] at HM HB6 HKP ⊢
    clear hw7 HZ hHeld HG6 HN6 HO6 c0 c2 f2
    have hB7 := HB6.out.size
    obtain ⟨a1, ha1⟩ : ∃ a1, ({ a with gotos := a.gotos ++ [(a.ops.length, p)] } : AC) = a1 := ⟨_, rfl⟩
    have e1 : a1.regs = a.regs := by rw [← ha1]
    have e2 : a1.ops = a.ops := by rw [← ha1]
    have HM1 := hid (show ACat B w7 g a1 by rw [← ha1]; exact ⟨_, _, _, _, HM.out⟩)
    have HA1 := hid ha1
    have l2 : a1.ops.length ≤ 900 := by rw [e2]; omega
    clear ha1 HM e1 e2
    go_wp2_with fail
    refine (asm_op B g a1 ⟨10, 0, 0, 0, 0⟩ w7 (Nat.le_trans hB hB7) (by omega) HM1.out).mono ?_
    rintro e w9 hp9
    obtain ⟨rfl, k9, b9, z9⟩ := hp9
    go_wp2
    go_ret
    exact ⟨rfl, by unfold agoto; rw [HA1.out]; exact k9, HB6.out.trans b9, HKP.out.trans z9⟩
end Go.Proofs.YtabmkjokeeakdaaDoor
