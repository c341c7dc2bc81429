/-
  Package asm: its walks.
-/
import Derived.Test.YtabmkjokeeakdaaDoorAsmMem
import Derived.Test.YtabmkjokeeakdaaDoorNum
namespace Go.Proofs.YtabmkjokeeakdaaDoor
open Go.RowKit Go.Maps
set_option linter.unusedVariables false

theorem key_of (s : Nm) (hs : s.length ≤ 100) : keyOf Tryd.prog 9 (.string ⟨s.toArray⟩) = some (.string s) := by
  have h := WideMaps.keyOf_string_mk (P := Tryd.prog) Tryd.underlying9 (s := ⟨s.toArray⟩) (by show s.toArray.size ≤ _; simp [maxLen]; omega)
  simpa using h
theorem litwf (n : Nat) (h : n ≤ 1000) : (Lit.int .i64 (n : Int)).wf = true := by
  have h1 : IntKind.i64.min = -9223372036854775808 := rfl
  have h2 : IntKind.i64.max = 9223372036854775807 := rfl
  simp only [Lit.wf, h1, h2, Bool.and_eq_true, decide_eq_true_eq]; omega
/-- blocks of other types stay -/
def Keeps (w w' : World) : Prop := ∀ (b t : Nat) (cs : Array Value), t ≠ 99 → t ≠ 113 → t ≠ 111 → Blk w b t cs → Blk w' b t cs
theorem Keeps.refl (w : World) : Keeps w w := fun _ _ _ _ _ _ h => h
theorem Keeps.trans {a b c : World} (h : Keeps a b) (k : Keeps b c) : Keeps a c := fun x t cs h1 h2 h3 hb => k x t cs h1 h2 h3 (h x t cs h1 h2 h3 hb)
theorem Keeps.below {w w' : World} (h : Below w.heap.size w w') : Keeps w w' := fun _ _ _ _ _ _ hb => hb.below' h
theorem Keeps.map {H : Type} {w w' : World} {P : Program} {k : TypeId} {R : Value → Option (DataW H × List MemPlace)} {b m : Nat} {D : DataW H} (hm : w.ownsMap P k R b m D) (hG : w.grownBy w' (some b)) : Keeps w w' := fun x t cs _ _ _ hb =>
  (Chg.of_grown hG (M := fun k => k = b) (fun k e => by injection e with e; exact e.symm)).blk hb (blk_ne_map hb hm)
theorem Keeps.row {w w' : World} {B e sz n : Nat} {v : Value} {xs : List Value} (ho : w.ownsRow B e sz v n xs) (he : e = 99 ∨ e = 113) (hG : w.grownBy w' v.ownBlock) : Keeps w w' := fun x t cs h1 h2 _ hb =>
  (Chg.of_grown hG (M := fun k => v.ownBlock = some k) (fun k e => e)).blk hb (own_ne_blk ho hb (by rcases he with e | e <;> rw [e]; exact h1.symm; exact h2.symm))
theorem Keeps.set_ {w : World} {g : Nat} {cs : Array Value} (hg : Blk w g 111 cs) (i : Nat) (v : Value) : Keeps w (w.setCell ⟨g, i, none⟩ v) := fun x t cs' _ _ h3 hb => hb.far (p := ⟨g, i, none⟩) (hb.ne_ hg h3) v
/-- what a method of a code leaves -/
def AsmPost (B g : Nat) (w : World) (v : Value) (a' : AC) (e : Ending) (w' : World) : Prop := e = .returned v ∧ ACat B w' g a' ∧ Below B w w' ∧ Keeps w w'
set_option maxHeartbeats 1000000 in
theorem asm_reg (B g : Nat) (a : AC) (s : Nm) (w : World) (hB : B ≤ w.heap.size) (hs : s.length ≤ 100) (hl : a.regs.length ≤ 900) (h : ACat B w g a) :
    Calls Tryd.prog 72 #[.pointer (some ⟨g, 0, none⟩), .string ⟨s.toArray⟩] w fun e w' => AsmPost B g w (.int .i64 (aregN a s : Int)) (areg s a) e w' := by
  obtain ⟨ov, gv, bm, br, h⟩ := h
  obtain ⟨hT, hAt, hHas⟩ := mapOf_all (H := Unit) a.regs
  have hSz := mapOf_size (H := Unit) a.regs h.rg
  have hkey := key_of s hs
  have c3 : w.cell? ⟨g, 3, none⟩ = some (.map (some br)) := h.blk.cell 3
  have HA := hid h
  have HAT := hid (hAt s)
  have hH := hHas s
  clear h hT hAt hHas
  have HSZ := hid hSz
  clear hSz
  cases hg : aget a.regs s with
  | some r =>
    rw [hg] at hH
    have hH : has (mapOf (H := Unit) a.regs) (.string s) = true := hH
    obtain ⟨e1, e2⟩ := areg_hit hg
    have HG := hid hg
    have HE := hid (And.intro e1 e2)
    clear hg e1 e2
    go_enter Tryd.func72, Tryd.ntmps72
    go_wp2_with (first
      | (at_lookup; (refine wpList_lookup_own_ok_int _ rfl _ _ 108 rfl 9 3 .i64 kStr Tryd.underlying108 Tryd.underlying3 (zeroI _) br a.regs.length (mapOf a.regs) rfl HA.out.mr _ _ rfl hkey ?_; intro c hat hwc; have HC := hid hat; clear hat)))
    have hcv : c = (r : Int) := by
      have h := HAT.out
      rw [HG.out] at h
      have h2 := HC.out.symm.trans h
      simp only [DataW.lit.injEq, Lit.int.injEq, true_and, Option.getD_some] at h2
      exact h2
    subst hcv
    go_ret
    exact ⟨(show Ending.returned (.int .i64 (r : Int)) = _ by rw [HE.out.2]), by rw [HE.out.1]; exact ⟨_, _, _, _, HA.out⟩, Below.refl _ _, Keeps.refl _⟩
  | none =>
    rw [hg] at hH
    have hH : has (mapOf (H := Unit) a.regs) (.string s) = false := hH
    have HG := hid hg
    have hwf := litwf a.regs.length (by omega)
    clear hg
    go_enter Tryd.func72, Tryd.ntmps72
    go_wp2_with (first
      | (at_lookup; (refine wpList_lookup_own_ok_int _ rfl _ _ 108 rfl 9 3 .i64 kStr Tryd.underlying108 Tryd.underlying3 (zeroI _) br a.regs.length (mapOf a.regs) rfl HA.out.mr _ _ rfl hkey ?_; intro c hat hwc; have HC := hid hat; clear hat))
      | (at_len; (refine wpList_len_own _ rfl _ 108 rfl 9 3 Tryd.underlying108 _ br a.regs.length (mapOf a.regs) rfl HA.out.mr ?_; rw [HSZ.out]))
      | (at_mapUpdate; (refine wpList_mapUpdate_own _ rfl _ _ _ 108 rfl 9 3 kStr Tryd.underlying108 _ br a.regs.length (mapOf a.regs) rfl HA.out.mr (by unfold maxLen; omega) _ _ _ rfl rfl hkey _ [] (plainElem_int Tryd.underlying3 hwf) ?_; intro w1 hown1 hgrow1)))
    go_ret
    exact ⟨(show Ending.returned (.int .i64 (a.regs.length : Int)) = _ by rw [(areg_miss HG.out).2]), ⟨_, _, _, _, HA.out.reg HG.out hgrow1 hown1⟩, grown_below (Below.refl _ _) hgrow1 HA.out.ger hB, Keeps.map HA.out.mr hgrow1⟩
set_option maxHeartbeats 2000000 in
theorem asm_op (B g : Nat) (a : AC) (o : Op5) (w : World) (hB : B ≤ w.heap.size) (hl : a.ops.length ≤ 1000) (h : ACat B w g a) :
    Calls Tryd.prog 74 #[.pointer (some ⟨g, 0, none⟩), .agg #[.int .i64 o.k, .int .i64 o.a, .int .i64 o.b, .int .i64 o.c, .int .i64 o.d]] w fun e w' => AsmPost B g w (.pointer (some ⟨g, 0, none⟩)) (aop o a) e w' := by
  obtain ⟨ov, gv, bm, br, h0⟩ := h
  obtain ⟨bx, hbx⟩ : ∃ bx, w.heap.size = bx := ⟨_, rfl⟩
  have hblt : ∀ k, ov.ownBlock = some k → k < bx := fun k hk => by rw [← hbx]; exact (own_ge h0.ops k hk).2
  have hglt : g < bx := by rw [← hbx]; exact h0.blk.lt
  have HBL := hid hblt
  obtain ⟨W, hW⟩ : ∃ W, w.alloc (.cells #[.int .i64 o.k, .int .i64 o.a, .int .i64 o.b, .int .i64 o.c, .int .i64 o.d] 99) = W := ⟨_, rfl⟩
  have BW := hid (show Below w.heap.size w W by rw [← hW]; exact bnew (bnil w) _)
  have HXB := hid (show Blk W bx 99 #[.int .i64 o.k, .int .i64 o.a, .int .i64 o.b, .int .i64 o.c, .int .i64 o.d] by rw [← hW]; exact blkN w _ _ bx hbx)
  have HX := hid (h0.below BW.out)
  have HBX := hid (Nat.le_trans hB BW.out.size)
  obtain ⟨y, hy⟩ : ∃ y, a.ops ++ [o] = y := ⟨_, rfl⟩
  have HY := hid hy
  have HYL := hid (show y.length = a.ops.length + 1 by rw [← hy, List.length_append]; rfl)
  have hS : ∀ w', Blk w' bx 99 #[.int .i64 o.k, .int .i64 o.a, .int .i64 o.b, .int .i64 o.c, .int .i64 o.d] → w'.frozen? ⟨g, 0, none⟩ = false → w'.cell? ⟨bx, 0, none⟩ = some (.int .i64 o.k) ∧ w'.cell? ⟨bx, 1, none⟩ = some (.int .i64 o.a) ∧ w'.cell? ⟨bx, 2, none⟩ = some (.int .i64 o.b) ∧ w'.cell? ⟨bx, 3, none⟩ = some (.int .i64 o.c) ∧ w'.cell? ⟨bx, 4, none⟩ = some (.int .i64 o.d) ∧ w'.frozen? ⟨g, 0, none⟩ = false :=
    fun w' hb hf => ⟨hb.cell 0, hb.cell 1, hb.cell 2, hb.cell 3, hb.cell 4, hf⟩
  have HS0 := hid (fun w' (hb : Below W.heap.size W w') => hS w' (HXB.out.below' hb) ((HX.out.blk.below' hb).frozen 0))
  have HGW := hid (fun wA w6 (hb : Below W.heap.size W wA) (hG : wA.grownBy w6 ov.ownBlock) => show _ ∧ w6.cell? ⟨g, 0, none⟩ = some ov ∧ _ from by
    have hc := Chg.of_grown hG (M := fun k => ov.ownBlock = some k) (fun k e => e)
    have b1 := hc.blk (HXB.out.below' hb) (fun e => Nat.lt_irrefl _ (HBL.out _ e))
    have b2 := hc.blk ((HX.out.below hb).blk) (own_ne_blk (HX.out.below hb).ops (HX.out.below hb).blk (by decide))
    exact ⟨hS w6 b1 (b2.frozen 0), b2.cell 0, fun v => hS _ (b1.far (p := ⟨g, 0, none⟩) (by show bx ≠ g; omega) v) ((b2.set_ 0 v).frozen 0)⟩)
  have c0 : W.cell? ⟨g, 0, none⟩ = some ov := HX.out.blk.cell 0
  have f0 : W.frozen? ⟨g, 0, none⟩ = false := HX.out.blk.frozen 0
  have lg := HX.out.blk.lt
  have hsW : W.heap.size = bx + 1 := by rw [← hW, ← hbx]; simp
  have HSW := hid hsW
  have HWW := hid hW
  clear hS hy hblt h0 hsW hW
  go_enter Tryd.func74, Tryd.ntmps74
  go_upto_region 1 with fail
  rw [HWW.out]
  refine wp_region_held_drew (S := (fun w' => w'.cell? ⟨bx, 0, none⟩ = some (.int .i64 o.k) ∧ w'.cell? ⟨bx, 1, none⟩ = some (.int .i64 o.a) ∧ w'.cell? ⟨bx, 2, none⟩ = some (.int .i64 o.b) ∧ w'.cell? ⟨bx, 3, none⟩ = some (.int .i64 o.c) ∧ w'.cell? ⟨bx, 4, none⟩ = some (.int .i64 o.d) ∧ w'.frozen? ⟨g, 0, none⟩ = false)) (by kernel_rfl) ?_ (fun hHeld => ?_)
  · (try dsimp only); (first | assumption | exact HZ.1 | exact HZ.2.2 _ | exact HS0.out _ (bnil _).drew | exact HS0.out _ (bnew (bnil _) _).drew)
  refine wpAnyH_take (i := 0) (oi := ⟨some 5, _, _, _, _, _⟩) (v := ?_) rfl (by kernel_rfl) (by kernel_rfl) (by kernel_rfl) (fun _ _ _ h => h) (Or.inl ⟨by rfl, ?_⟩) (by assumption) ?_
  rotate_left
  · intro w hSw; (try dsimp only at hSw); go_simp <;> with_reducible rfl
  try simp only [Act.put, List.setIfInBounds_toArray, List.set_cons_zero, List.set_cons_succ]
  refine wpAnyH_take (i := 1) (oi := ⟨some 6, _, _, _, _, _⟩) (v := ?_) rfl (by kernel_rfl) (by kernel_rfl) (by kernel_rfl) (fun _ _ _ h => h) (Or.inl ⟨by rfl, ?_⟩) (by assumption) ?_
  rotate_left
  · intro w hSw; (try dsimp only at hSw); go_simp <;> with_reducible rfl
  try simp only [Act.put, List.setIfInBounds_toArray, List.set_cons_zero, List.set_cons_succ]
  refine wpAnyH_take (i := 2) (oi := ⟨some 7, _, _, _, _, _⟩) (v := ?_) rfl (by kernel_rfl) (by kernel_rfl) (by kernel_rfl) (fun _ _ _ h => h) (Or.inl ⟨by rfl, ?_⟩) (by assumption) ?_
  rotate_left
  · intro w hSw; (try dsimp only at hSw); go_simp <;> with_reducible rfl
  try simp only [Act.put, List.setIfInBounds_toArray, List.set_cons_zero, List.set_cons_succ]
  refine wpAnyH_take (i := 3) (oi := ⟨some 8, _, _, _, _, _⟩) (v := ?_) rfl (by kernel_rfl) (by kernel_rfl) (by kernel_rfl) (fun _ _ _ h => h) (Or.inl ⟨by rfl, ?_⟩) (by assumption) ?_
  rotate_left
  · intro w hSw; (try dsimp only at hSw); go_simp <;> with_reducible rfl
  try simp only [Act.put, List.setIfInBounds_toArray, List.set_cons_zero, List.set_cons_succ]
  refine wpAnyH_take (i := 5) (oi := ⟨some 10, _, _, _, _, _⟩) (v := ?_) rfl (by kernel_rfl) (by kernel_rfl) (by kernel_rfl) (fun _ _ _ h => h) (Or.inl ⟨by rfl, ?_⟩) (by assumption) ?_
  rotate_left
  · intro w hSw; (try dsimp only at hSw); go_simp <;> with_reducible rfl
  try simp only [Act.put, List.setIfInBounds_toArray, List.set_cons_zero, List.set_cons_succ]
  refine wpAnyH_ready (rs := [4, 6]) (by kernel_rfl) (by simp) ?_
  refine AllReadyH.cons (o := ⟨some 9, _, _, _, _, _⟩) rfl (fun K hK => ?_) ?_
  go_simp
  refine hK.out _ _ ?_ (fun hHeld => ?_)
  · (try dsimp only); (first | assumption | exact HZ.1 | exact HZ.2.2 _ | exact HS0.out _ (bnil _).drew | exact HS0.out _ (bnew (bnil _) _).drew)
  clear hK K
  try simp only [Act.put, List.setIfInBounds_toArray, List.set_cons_zero, List.set_cons_succ]
  refine wpAnyH_ready (rs := [6]) (by kernel_rfl) (by simp) ?_
  refine AllReadyH.cons (o := ⟨some 11, _, _, _, _, _⟩) rfl (fun K hK => ?_) AllReadyH.nil
  go_simp
  refine hK.out _ _ ?_ (fun hHeld => ?_)
  · (try dsimp only); (first | assumption | exact HZ.1 | exact HZ.2.2 _ | exact HS0.out _ (bnil _).drew | exact HS0.out _ (bnew (bnil _) _).drew)
  clear hK K
  try simp only [Act.put, List.setIfInBounds_toArray, List.set_cons_zero, List.set_cons_succ]
  refine wpAnyH_ready (rs := [7]) (by kernel_rfl) (by simp) ?_
  refine AllReadyH.cons (o := ⟨some 12, _, _, _, _, _⟩) rfl (fun K hK => ?_) AllReadyH.nil
  (refine step_appC elmOp gOp_one rfl (.tmp 9) (.tmp 11) rfl ov a.ops rfl (own_below HX.out.ops (bnew (bnil _) _).drew) [o] y HY rfl (Sl.drew (Sl.fresh' _ #[_, _, _, _, _] 99 5 1 _ rfl rfl)) rfl (by rw [HYL.out]; simp only [maxLen]; omega) (by rw [HYL.out]; omega) (Nat.le_trans HBX.out (bnew (bnil _) _).drew.size) ?_; intro E6 c6 w6 hc6 hc7 HN6 HG6 HO6; have HZ := HGW.out _ w6 (bnew (bnil _) _).drew HG6.out)
  refine hK.out _ _ ?_ (fun hHeld => ?_)
  · (try dsimp only); (first | assumption | exact HZ.1 | exact HZ.2.2 _ | exact HS0.out _ (bnil _).drew | exact HS0.out _ (bnew (bnil _) _).drew)
  clear hK K
  try simp only [Act.put, List.setIfInBounds_toArray, List.set_cons_zero, List.set_cons_succ]
  refine wpAnyH_take (i := 8) (oi := ⟨some 13, _, _, _, _, _⟩) (v := ?_) rfl (by kernel_rfl) (by kernel_rfl) (by kernel_rfl) (fun _ _ _ h => h) (Or.inl ⟨by rfl, ?_⟩) (by assumption) ?_
  rotate_left
  · intro w hSw; (try dsimp only at hSw); go_simp <;> with_reducible rfl
  try simp only [Act.put, List.setIfInBounds_toArray, List.set_cons_zero, List.set_cons_succ]
  refine wpAnyH_take (i := 9) (oi := ⟨some 14, _, _, _, _, _⟩) (v := ?_) rfl (by kernel_rfl) (by kernel_rfl) (by kernel_rfl) (fun _ _ _ h => h) (Or.inl ⟨by rfl, ?_⟩) (by assumption) ?_
  rotate_left
  · intro w hSw; (try dsimp only at hSw); go_simp <;> with_reducible rfl
  try simp only [Act.put, List.setIfInBounds_toArray, List.set_cons_zero, List.set_cons_succ]
  refine wpAnyH_ready (rs := [10]) (by kernel_rfl) (by simp) ?_
  refine AllReadyH.cons (o := ⟨none, _, _, _, _, _⟩) rfl (fun K hK => ?_) AllReadyH.nil
  go_simp
  refine hK.out _ _ ?_ (fun hHeld => ?_)
  · (try dsimp only); (first | assumption | exact HZ.1 | exact HZ.2.2 _ | exact HS0.out _ (bnil _).drew | exact HS0.out _ (bnew (bnil _) _).drew)
  clear hK K
  try simp only [Act.put, List.setIfInBounds_toArray, List.set_cons_zero, List.set_cons_succ]
  refine wpAnyH_done (by kernel_rfl) ?_ _
  rotate_left
  refine AllReadyH.cons (o := ⟨some 11, _, _, _, _, _⟩) rfl (fun K hK => ?_) AllReadyH.nil
  go_simp
  refine hK.out _ _ ?_ (fun hHeld => ?_)
  · (try dsimp only); (first | assumption | exact HZ.1 | exact HZ.2.2 _ | exact HS0.out _ (bnil _).drew | exact HS0.out _ (bnew (bnil _) _).drew)
  clear hK K
  try simp only [Act.put, List.setIfInBounds_toArray, List.set_cons_zero, List.set_cons_succ]
  refine wpAnyH_ready (rs := [4]) (by kernel_rfl) (by simp) ?_
  refine AllReadyH.cons (o := ⟨some 9, _, _, _, _, _⟩) rfl (fun K hK => ?_) AllReadyH.nil
  go_simp
  refine hK.out _ _ ?_ (fun hHeld => ?_)
  · (try dsimp only); (first | assumption | exact HZ.1 | exact HZ.2.2 _ | exact HS0.out _ (bnil _).drew | exact HS0.out _ (bnew (bnil _) _).drew)
  clear hK K
  try simp only [Act.put, List.setIfInBounds_toArray, List.set_cons_zero, List.set_cons_succ]
  refine wpAnyH_ready (rs := [7]) (by kernel_rfl) (by simp) ?_
  refine AllReadyH.cons (o := ⟨some 12, _, _, _, _, _⟩) rfl (fun K hK => ?_) AllReadyH.nil
  (refine step_appC elmOp gOp_one rfl (.tmp 9) (.tmp 11) rfl ov a.ops rfl (own_below HX.out.ops (bnew (bnil _) _).drew) [o] y HY rfl (Sl.drew (Sl.fresh' _ #[_, _, _, _, _] 99 5 1 _ rfl rfl)) rfl (by rw [HYL.out]; simp only [maxLen]; omega) (by rw [HYL.out]; omega) (Nat.le_trans HBX.out (bnew (bnil _) _).drew.size) ?_; intro E6 c6 w6 hc6 hc7 HN6 HG6 HO6; have HZ := HGW.out _ w6 (bnew (bnil _) _).drew HG6.out)
  refine hK.out _ _ ?_ (fun hHeld => ?_)
  · (try dsimp only); (first | assumption | exact HZ.1 | exact HZ.2.2 _ | exact HS0.out _ (bnil _).drew | exact HS0.out _ (bnew (bnil _) _).drew)
  clear hK K
  try simp only [Act.put, List.setIfInBounds_toArray, List.set_cons_zero, List.set_cons_succ]
  refine wpAnyH_take (i := 8) (oi := ⟨some 13, _, _, _, _, _⟩) (v := ?_) rfl (by kernel_rfl) (by kernel_rfl) (by kernel_rfl) (fun _ _ _ h => h) (Or.inl ⟨by rfl, ?_⟩) (by assumption) ?_
  rotate_left
  · intro w hSw; (try dsimp only at hSw); go_simp <;> with_reducible rfl
  try simp only [Act.put, List.setIfInBounds_toArray, List.set_cons_zero, List.set_cons_succ]
  refine wpAnyH_take (i := 9) (oi := ⟨some 14, _, _, _, _, _⟩) (v := ?_) rfl (by kernel_rfl) (by kernel_rfl) (by kernel_rfl) (fun _ _ _ h => h) (Or.inl ⟨by rfl, ?_⟩) (by assumption) ?_
  rotate_left
  · intro w hSw; (try dsimp only at hSw); go_simp <;> with_reducible rfl
  try simp only [Act.put, List.setIfInBounds_toArray, List.set_cons_zero, List.set_cons_succ]
  refine wpAnyH_ready (rs := [10]) (by kernel_rfl) (by simp) ?_
  refine AllReadyH.cons (o := ⟨none, _, _, _, _, _⟩) rfl (fun K hK => ?_) AllReadyH.nil
  go_simp
  refine hK.out _ _ ?_ (fun hHeld => ?_)
  · (try dsimp only); (first | assumption | exact HZ.1 | exact HZ.2.2 _ | exact HS0.out _ (bnil _).drew | exact HS0.out _ (bnew (bnil _) _).drew)
  clear hK K
  try simp only [Act.put, List.setIfInBounds_toArray, List.set_cons_zero, List.set_cons_succ]
  refine wpAnyH_done (by kernel_rfl) ?_ _
  rotate_left
  all_goals
    have HM := hid (HX.out.op (o := o) (bnew (bnil _) _).drew HG6.out HY.out HN6.out)
    have b1 := (BW.out.mono hB).trans ((bnew (bnil W) (.cells #[.int .i64 o.k, .int .i64 o.a, .int .i64 o.b, .int .i64 o.c, .int .i64 o.d] 99)).drew.mono HBX.out)
    have HB6 := hid ((below_app b1 (own_below HX.out.ops (bnew (bnil _) _).drew) HG6.out (Nat.le_trans HBX.out (bnew (bnil _) _).drew.size)).setCell (p := ⟨g, 0, none⟩) HX.out.ge (.slice E6 y.length c6))
    have bwA := (bnew (bnil W) (.cells #[.int .i64 o.k, .int .i64 o.a, .int .i64 o.b, .int .i64 o.c, .int .i64 o.d] 99)).drew
    have hbk : Blk w6 g 111 #[ov, .map (some bm), gv, .map (some br)] := (Chg.of_grown HG6.out (M := fun k => ov.ownBlock = some k) (fun k e => e)).blk ((HX.out.below bwA).blk) (own_ne_blk (HX.out.below bwA).ops ((HX.out.below bwA).blk) (by decide))
    have HKP := hid (((Keeps.below BW.out).trans (Keeps.below bwA)).trans ((Keeps.row (own_below HX.out.ops bwA) (.inl rfl) HG6.out).trans (Keeps.set_ hbk 0 (.slice E6 y.length c6))))
    clear b1 hbk bwA
    go_wp2
    go_ret
    exact ⟨rfl, ⟨_, _, _, _, HM.out⟩, HB6.out, HKP.out⟩
end Go.Proofs.YtabmkjokeeakdaaDoor
