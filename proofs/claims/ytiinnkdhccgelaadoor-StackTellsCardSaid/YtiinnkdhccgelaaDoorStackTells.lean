/-
  StackTells: its walk. Written by gen_xtells.py.
-/
import Derived.Test.YtiinnkdhccgelaaDoorTellQ
import Derived.Test.YtiinnkdhccgelaaDoorSMach
import Derived.Test.YtiinnkdhccgelaaDoorSAll
import Derived.Test.YtiinnkdhccgelaaDoorRan
import Derived.Test.YtiinnkdhccgelaaDoorLeaves
namespace Go.Proofs.YtiinnkdhccgelaaDoor
open Go.RowKit
set_option linter.unusedVariables false

theorem mk5000 (w : World) : (Instr.makeSlice 24 (.int .i64 5000) (.int .i64 5000)).run Tryd.prog w = .ok (.slice (some ⟨w.heap.size, 0, none⟩) 5000 5000) (w.alloc (.cells (madeCells #[Value.int .i64 0] 5000) 3)) :=
  run_make_row' (P := Tryd.prog) 24 3 (.int .i64 0) 8 Tryd.underlying24 (by kernel_rfl) rfl .i64 .i64 5000 (by omega) (by omega) w
theorem sees3x {W w' : World} {p q r : Addr} {u v x : Value} (h : Below W.heap.size W w') (hp : W.cell? p = some u) (hq : W.cell? q = some v) (hr : W.cell? r = some x) : w'.cell? p = some u ∧ w'.cell? q = some v ∧ w'.cell? r = some x := ⟨cell_below h hp, cell_below h hq, cell_below h hr⟩
theorem sees2fx {W w' : World} {p q : Addr} {u v : Value} (h : Below W.heap.size W w') (hp : W.cell? p = some u) (hq : W.cell? q = some v) (hf : W.frozen? q = false) : w'.cell? p = some u ∧ w'.frozen? q = false := ⟨cell_below h hp, by rw [h.frozen (World.block_lt_of_cell? W _ hq)]; exact hf⟩
theorem xres_last (N : Nat) (l : List Int) (x : Int) : xres false N (l ++ [x]) false 0 = (x, l) := by
  unfold xres otell
  rw [if_neg (by decide), if_neg (by decide)]
  split
  · rename_i hn; exact absurd hn (by simp)
  · rename_i y l' hl
    rw [if_neg (by decide), ← hl]
    simp

set_option maxHeartbeats 8000000 in
set_option maxRecDepth 100000 in
theorem law_stackTells (xi : Int) (D : Option Addr) (r s : Nat) (cs : List Bool) (w : World) (ha : -9223372036854775808 ≤ xi) (ha1 : xi ≤ 9223372036854775807)
    (hr : r ≤ s) (hs : s ≤ maxLen) (_ : s * 1 ≤ 140737488351232) (hD : Sl w 1 D r (cs.flatMap gBo)) (_ : True) (hT : STab w) :
    Calls Tryd.prog 13 #[.int .i64 xi, .slice D r s] w fun e w' => e = .returned (.bool true) ∧ Below w.heap.size w w' := by
  have HDD := hid hD; have HT := hid hT
  have HRL := hid (show cs.length = r by have := hD.1; rw [flatMap_len _ 1 (fun _ => rfl), Nat.mul_one] at this; omega)
  clear hD hT
  have hrl : r ≤ 9223372036854775807 := by unfold maxLen at hs; omega
  clear hs
  have m1 := pk_lt xi 8 (by decide)
  obtain ⟨N, hR⟩ : ∃ N : Nat, wrap64 (1 + (pk xi 8 : Int)) = (N : Int) ∧ N = 1 + pk xi 8 := ⟨1 + pk xi 8, by rw [wrap_mid (by omega) (by omega)]; omega, rfl⟩
  have h1 : 1 ≤ N := by omega
  have h8 : N ≤ 8 := by omega
  have HR := hid hR.1
  have HWL := hid (show ((swords N) : List Int).length = 2 * N + 2 by exact swords_len ⟨h1, h8⟩)
  clear hR m1
  go_enter Tryd.func13, Tryd.ntmps13
  go_wp2_with fail
  refine (picked xi 8 w (by decide) ha ha1 (by decide)).mono ?_
  rintro e w' ⟨rfl, rfl⟩
  go_wp2_with fail
  rw [HR.out]
  clear HR
  refine (stack_machine N none 0 0 0 [] w h1 h8 (by decide) (by decide) (Sl.nil none) HT.out).mono ?_
  rintro e w1 hp1
  obtain ⟨AW, cW, Cb, T0, cv, tv0, av0, rfl, hW, hM, b1⟩ := hp1
  have HM := hid hM; have B1 := hid b1; have HW := hid hW
  clear hM b1 hW
  obtain ⟨X, hX⟩ : ∃ X, w1.heap.size = X := ⟨_, rfl⟩
  obtain ⟨T, hTX⟩ : ∃ T, X + 1 = T := ⟨_, rfl⟩
  have HTX := hid hTX
  have HX0 := hid hX
  clear hX hTX
  go_wp2_with fail
  have hX := HX0.out
  rw [hX]
  have hTX := HTX.out
  try rw [hTX]
  have BB := hid (bnew (bnew (bnil w1) (.cells #[.slice AW (2 * N + 2) cW, .slice (some ⟨Cb, 0, none⟩) 2 2, .slice (some ⟨T, 0, none⟩) 1 1] 34)) (.cells #[.slice none 0 0] 54))
  have HXB := hid ((blkN w1 34 #[.slice AW (2 * N + 2) cW, .slice (some ⟨Cb, 0, none⟩) 2 2, .slice (some ⟨T, 0, none⟩) 1 1] X hX).alloc (.cells #[.slice none 0 0] 54))
  have HTB := hid (blkN (w1.alloc (.cells #[.slice AW (2 * N + 2) cW, .slice (some ⟨Cb, 0, none⟩) 2 2, .slice (some ⟨T, 0, none⟩) 1 1] 34)) 54 #[.slice none 0 0] T (by simp [hX, hTX]))
  generalize World.alloc (World.alloc w1 (.cells #[.slice AW (2 * N + 2) cW, .slice (some ⟨Cb, 0, none⟩) 2 2, .slice (some ⟨T, 0, none⟩) 1 1] 34)) (.cells #[.slice none 0 0] 54) = w2 at *
  clear hX hTX
  have hBT : w.heap.size ≤ T := by have h1 := HX0.out; have h2 := HTX.out; have h3 := B1.out.size; omega
  have hMT : MN w.heap.size w2 2 1 Cb T cv (fun i => [spushCode, spopCode].getD i []) (fun _ => .slice none 0 0) (fun _ => []) (fun _ => []) :=
    MN.start (v := fun _ => undef) (HM.out.below BB.out).geC hBT (HM.out.below BB.out).cb HTB.out (HM.out.below BB.out).os
  rw [show (fun _ => [] : Nat → List VCall) = oneTh (xcalls (fun i : Nat => (i : Int)) cs 0) from by funext j; simp [oneTh, xcalls]] at hMT
  have TW0 := hid (show TX w w2 X Cb T AW (2 * N + 2) cW (swords N) (spushCode) (spopCode) cv (fun _ => .slice none 0 0) (fun _ => []) (xcalls (fun i : Nat => (i : Int)) cs 0) (.slice none 0 0) [] (.slice none 0 0) [] from
    ⟨HXB.out, own_below HW.out BB.out, hMT, own0 _ _ _ 1, OwnQ.nil _ _, (fun b hb hb' => by cases hb'), (fun b hb hb' => by cases hb'), (fun b hb hb' => by cases hb'), (fun a ha => by cases ha), (fun a ha => by cases ha), bgo B1.out BB.out⟩)
  clear hMT
  clear HXB HTB BB HM HW B1
  go_loopw [8, 9, 10] (fun wv hv i wx => ∃ (k Lh : Nat) (Aw Ah : Option Addr) (cw ch : Nat) (tv : Nat → Value) (av : Nat → List SV), k ≤ 20 ∧ i = .int .i64 k ∧ wv = .slice Aw k cw ∧ hv = .slice Ah Lh ch ∧ Lh ≤ N ∧ Hid ((xhas false N (fun i : Nat => (i : Int)) cs k).length = Lh) ∧ Hid (TX w wx X Cb T AW (2 * N + 2) cW (swords N) (spushCode) (spopCode) cv tv av (xcalls (fun i : Nat => (i : Int)) cs k) (.slice Aw k cw) (xwant false N (fun i : Nat => (i : Int)) cs k) (.slice Ah Lh ch) (xhas false N (fun i : Nat => (i : Int)) cs k))) (fun _ _ i _ => 20 - (intOf i).toNat)
  case atStart => exact ⟨0, 0, none, none, 0, 0, _, _, Nat.zero_le _, rfl, rfl, rfl, Nat.zero_le _, rfl, TW0⟩
  case round =>
    clear TW0
    obtain ⟨k, Lh, Aw, Ah, cw, ch, tv, av, hk, rfl, rfl, rfl, hLN, HLH, H⟩ := hrel
    by_cases h20 : k < 20
    · have i1 : (k : Int) < 20 := by omega
      obtain ⟨hs, hhs⟩ : ∃ hs, (xhas false N (fun i : Nat => (i : Int)) cs k) = hs := ⟨_, rfl⟩
      have HHS := hid hhs
      obtain ⟨b, hb⟩ : ∃ b, xtake cs k = b := ⟨_, rfl⟩
      have HB := hid hb
      have hcase : (k < r ∧ ∃ ad, D = some ad ∧ wr.cell? (ad.add k) = some (.bool b)) ∨ (¬ k < r ∧ b = false) := by
        by_cases h2 : k < r
        · obtain ⟨ad, e, hc⟩ := HDD.out.2 (by omega)
          obtain ⟨x, hx⟩ : ∃ x, cs[k]? = some x := ⟨_, List.getElem?_eq_getElem (by rw [HRL.out]; exact h2)⟩
          have hxb : b = x := by rw [← hb]; unfold xtake; rw [List.getD_eq_getElem?_getD, hx]; rfl
          have hh := flatMap_at gBo 1 (fun _ => rfl) cs k 0 x hx (by decide)
          rw [Nat.mul_one, Nat.add_zero] at hh
          exact .inl ⟨h2, ad, e, by rw [hxb]; exact cell_below H.out.below (hc k _ (by rw [hh]; rfl))⟩
        · exact .inr ⟨h2, by rw [← hb]; unfold xtake; rw [List.getD_eq_getElem?_getD, List.getElem?_eq_none (by rw [HRL.out]; omega)]; rfl⟩
      rw [hhs] at HLH H
      clear hb hhs
      have HBB := hid hcase
      clear hcase
      -- the machine's cells
      have c2 : wr.cell? ⟨X, 2, none⟩ = some (.slice (some ⟨T, 0, none⟩) 1 1) := H.out.hx.cell 2
      have c3 : wr.cell? ⟨T, 0, none⟩ = some (tv 0) := by rw [H.out.mn.tb.cell 0]; exact arrN_at tv (by decide)
      have f3 : wr.frozen? ⟨T, 0, none⟩ = false := H.out.mn.tb.frozen 0
      have hrow := H.out.mn.rows 0 (by decide)
      have hL0 : (oneTh (xcalls (fun i : Nat => (i : Int)) cs k) 0).length = k := xcalls_len _ cs k
      obtain ⟨Aj, cj, hAj, hcj1, hcj2⟩ := own_form hrow.2.1
      rw [hL0] at hAj hcj1
      rw [hAj] at c3
      have HAJ := hid hAj
      have HROW := hid hrow
      have HLL := hid hL0
      clear hAj hrow hL0
      have ltT := World.block_lt_of_cell? wr _ c3
      have ltX := World.block_lt_of_cell? wr _ c2
      have HBS := hid H.out.below.size
      have HOW := hid (show ∀ w', Below wr.heap.size wr w' → w'.ownsRow w.heap.size 53 2 (.slice Aj k cj) ((oneTh (xcalls (fun i : Nat => (i : Int)) cs k) 0).zip (av 0)).length (((oneTh (xcalls (fun i : Nat => (i : Int)) cs k) 0).zip (av 0)).flatMap gS) from fun w' hb => by
        have h1 := own_below HROW.out.2.1 hb
        rw [HAJ.out] at h1
        rw [List.length_zip, HROW.out.1, Nat.min_self]
        exact h1)
      have HGW := hid (show ∀ wA w6, Below wr.heap.size wr wA → wA.grownBy w6 (Value.slice Aj k cj).ownBlock → (w6.cell? ⟨X, 2, none⟩ = some (.slice (some ⟨T, 0, none⟩) 1 1) ∧ w6.frozen? ⟨T, 0, none⟩ = false) ∧ w6.cell? ⟨T, 0, none⟩ = some (.slice Aj k cj) ∧
        ∀ v, ((w6.setCell ⟨T, 0, none⟩ v).cell? ⟨X, 2, none⟩ = some (.slice (some ⟨T, 0, none⟩) 1 1) ∧ (w6.setCell ⟨T, 0, none⟩ v).frozen? ⟨T, 0, none⟩ = false) from fun wA w6 hb hG => by
        rw [← HAJ.out] at hG
        obtain ⟨g1, g2⟩ := H.out.mn.grown (by decide : 0 < 1) hb hG
        have gX := g2 (by decide) H.out.hx
        exact ⟨⟨gX.cell 2, g1.frozen 0⟩, by rw [g1.cell 0, arrN_at tv (by decide), HAJ.out], fun v => ⟨(gX.far (p := ⟨T, 0, none⟩) (gX.ne_ g1 (by decide)) v).cell 2, (g1.set_ 0 v).frozen 0⟩⟩)
      have HXF := hid (show (fun i : Nat => (i : Int)) k = (k : Int) from rfl)
      cases b with
      | true =>
        have HNX := hid (show xcall (fun i : Nat => (i : Int)) cs k = ⟨1, []⟩ by unfold xcall; rw [HB.out]; rfl)
        have HHN := hid (show (xhas false N (fun i : Nat => (i : Int)) cs (k + 1)) = (xres false N hs false 0).2 by show (xres false N (xhas false N (fun i : Nat => (i : Int)) cs k) (!xtake cs k) _).2 = _; rw [HB.out, HHS.out]; rfl)
        have HWN := hid (show (xwant false N (fun i : Nat => (i : Int)) cs (k + 1)) = (xwant false N (fun i : Nat => (i : Int)) cs k) ++ [(xres false N hs false 0).1] by rw [xwant_next]; unfold xtold; rw [HB.out, HHS.out]; rfl)
        have HYL0 := hid (show ((oneTh (xcalls (fun i : Nat => (i : Int)) cs k) 0).zip (av 0)).length = k by rw [List.length_zip, HROW.out.1, HLL.out]; simp)
        obtain ⟨y, hy⟩ : ∃ y, (oneTh (xcalls (fun i : Nat => (i : Int)) cs k) 0).zip (av 0) ++ [((⟨1, []⟩ : VCall), (⟨none, 0, 0⟩ : SV))] = y := ⟨_, rfl⟩
        have HYE := hid hy
        have HYL := hid (show y.length = k + 1 by rw [← hy, List.length_append, HYL0.out]; simp)
        clear hy
        have HFR := hid (show ((wr.alloc (.cells #[.int .i64 1, .slice none 0 0] 53))).drew.ownsRow w.heap.size 3 1 (.slice none 0 0) 0 [] from own0 _ _ _ 1)
        obtain ⟨ad, rfl, cx, i2⟩ : ∃ ad, D = some ad ∧ wr.cell? (ad.add k) = some (.bool true) ∧ (k : Int) < (r : Int) := by
          rcases HBB.out with ⟨h2, ad, e, c⟩ | ⟨_, h2⟩
          · exact ⟨ad, e, c, by omega⟩
          · cases h2
        go_upto_region 12 with fail
        clear cx
        refine wp_region_held_drew (S := (fun w' => w'.cell? ⟨X, 2, none⟩ = some (.slice (some ⟨T, 0, none⟩) 1 1) ∧ w'.frozen? ⟨T, 0, none⟩ = false)) (by kernel_rfl) ?_ (fun hHeld => ?_)
        · (try dsimp only); (first | assumption | exact ⟨c2, f3⟩ | exact HZ.1 | exact HZ.2.2 _ | (refine sees2fx ?_ c2 c3 f3; (repeat (first | exact bnil _ | refine Below.drew ?_ | refine bnew ?_ _))))
        refine wpAnyH_take (i := 0) (oi := ⟨some 40, _, _, _, _, _⟩) (v := ?_) rfl (by kernel_rfl) (by kernel_rfl) (by kernel_rfl) (fun _ _ _ h => h) (Or.inl ⟨by rfl, ?_⟩) (by assumption) ?_
        rotate_left
        · intro w hSw; (try dsimp only at hSw); go_simp <;> with_reducible rfl
        try simp only [Act.put, List.setIfInBounds_toArray, List.set_cons_zero, List.set_cons_succ]
        refine wpAnyH_take (i := 1) (oi := ⟨some 41, _, _, _, _, _⟩) (v := ?_) rfl (by kernel_rfl) (by kernel_rfl) (by kernel_rfl) (fun _ _ _ h => h) (Or.inl ⟨by rfl, ?_⟩) (by assumption) ?_
        rotate_left
        · intro w hSw; (try dsimp only at hSw); go_simp <;> with_reducible rfl
        try simp only [Act.put, List.setIfInBounds_toArray, List.set_cons_zero, List.set_cons_succ]
        refine wpAnyH_take (i := 2) (oi := ⟨some 42, _, _, _, _, _⟩) (v := ?_) rfl (by kernel_rfl) (by kernel_rfl) (by kernel_rfl) (fun _ _ _ h => h) (Or.inl ⟨by rfl, ?_⟩) (by assumption) ?_
        rotate_left
        · intro w hSw; (try dsimp only at hSw); go_simp <;> with_reducible rfl
        try simp only [Act.put, List.setIfInBounds_toArray, List.set_cons_zero, List.set_cons_succ]
        refine wpAnyH_take (i := 3) (oi := ⟨some 43, _, _, _, _, _⟩) (v := ?_) rfl (by kernel_rfl) (by kernel_rfl) (by kernel_rfl) (fun _ _ _ h => h) (Or.inl ⟨by rfl, ?_⟩) (by assumption) ?_
        rotate_left
        · intro w hSw; (try dsimp only at hSw); go_simp <;> with_reducible rfl
        try simp only [Act.put, List.setIfInBounds_toArray, List.set_cons_zero, List.set_cons_succ]
        refine wpAnyH_take (i := 4) (oi := ⟨some 44, _, _, _, _, _⟩) (v := ?_) rfl (by kernel_rfl) (by kernel_rfl) (by kernel_rfl) (fun _ _ _ h => h) (Or.inl ⟨by rfl, ?_⟩) (by assumption) ?_
        rotate_left
        · intro w hSw; (try dsimp only at hSw); go_simp <;> with_reducible rfl
        try simp only [Act.put, List.setIfInBounds_toArray, List.set_cons_zero, List.set_cons_succ]
        refine wpAnyH_take (i := 6) (oi := ⟨some 46, _, _, _, _, _⟩) (v := ?_) rfl (by kernel_rfl) (by kernel_rfl) (by kernel_rfl) (fun _ _ _ h => h) (Or.inl ⟨by rfl, ?_⟩) (by assumption) ?_
        rotate_left
        · intro w hSw; (try dsimp only at hSw); go_simp <;> with_reducible rfl
        try simp only [Act.put, List.setIfInBounds_toArray, List.set_cons_zero, List.set_cons_succ]
        refine wpAnyH_ready (rs := [5, 7]) (by kernel_rfl) (by simp) ?_
        refine AllReadyH.cons (o := ⟨some 45, _, _, _, _, _⟩) rfl (fun K hK => ?_) ?_
        go_simp
        refine hK.out _ _ ?_ (fun hHeld => ?_)
        · (try dsimp only); (first | assumption | exact ⟨c2, f3⟩ | exact HZ.1 | exact HZ.2.2 _ | (refine sees2fx ?_ c2 c3 f3; (repeat (first | exact bnil _ | refine Below.drew ?_ | refine bnew ?_ _))))
        clear hK K
        try simp only [Act.put, List.setIfInBounds_toArray, List.set_cons_zero, List.set_cons_succ]
        refine wpAnyH_ready (rs := [7]) (by kernel_rfl) (by simp) ?_
        refine AllReadyH.cons (o := ⟨some 47, _, _, _, _, _⟩) rfl (fun K hK => ?_) AllReadyH.nil
        go_simp
        refine hK.out _ _ ?_ (fun hHeld => ?_)
        · (try dsimp only); (first | assumption | exact ⟨c2, f3⟩ | exact HZ.1 | exact HZ.2.2 _ | (refine sees2fx ?_ c2 c3 f3; (repeat (first | exact bnil _ | refine Below.drew ?_ | refine bnew ?_ _))))
        clear hK K
        try simp only [Act.put, List.setIfInBounds_toArray, List.set_cons_zero, List.set_cons_succ]
        refine wpAnyH_ready (rs := [8]) (by kernel_rfl) (by simp) ?_
        refine AllReadyH.cons (o := ⟨some 48, _, _, _, _, _⟩) rfl (fun K hK => ?_) AllReadyH.nil
        (refine step_appC elmCN gS_one rfl (.tmp 45) (.tmp 47) rfl (.slice Aj k cj) ((oneTh (xcalls (fun i : Nat => (i : Int)) cs k) 0).zip (av 0)) rfl (HOW.out _ (bnew (bnil _) _).drew) [((⟨1, []⟩ : VCall), (⟨none, 0, 0⟩ : SV))] y HYE rfl (Sl.drew (Sl.fresh' _ #[_, _] 53 2 1 _ (by simp) rfl)) rfl (by rw [HYL.out]; simp only [maxLen]; omega) (by rw [HYL.out]; omega) (Nat.le_trans HBS.out (bnew (bnil _) _).drew.size) ?_; intro E6 c6 w6 hc6 hc7 HN6 HG6 HO6; have HZ := HGW.out _ w6 (bnew (bnil _) _).drew HG6.out)
        refine hK.out _ _ ?_ (fun hHeld => ?_)
        · (try dsimp only); (first | assumption | exact ⟨c2, f3⟩ | exact HZ.1 | exact HZ.2.2 _ | (refine sees2fx ?_ c2 c3 f3; (repeat (first | exact bnil _ | refine Below.drew ?_ | refine bnew ?_ _))))
        clear hK K
        try simp only [Act.put, List.setIfInBounds_toArray, List.set_cons_zero, List.set_cons_succ]
        refine wpAnyH_take (i := 9) (oi := ⟨some 49, _, _, _, _, _⟩) (v := ?_) rfl (by kernel_rfl) (by kernel_rfl) (by kernel_rfl) (fun _ _ _ h => h) (Or.inl ⟨by rfl, ?_⟩) (by assumption) ?_
        rotate_left
        · intro w hSw; (try dsimp only at hSw); go_simp <;> with_reducible rfl
        try simp only [Act.put, List.setIfInBounds_toArray, List.set_cons_zero, List.set_cons_succ]
        refine wpAnyH_ready (rs := [10]) (by kernel_rfl) (by simp) ?_
        refine AllReadyH.cons (o := ⟨none, _, _, _, _, _⟩) rfl (fun K hK => ?_) AllReadyH.nil
        go_simp
        refine hK.out _ _ ?_ (fun hHeld => ?_)
        · (try dsimp only); (first | assumption | exact ⟨c2, f3⟩ | exact HZ.1 | exact HZ.2.2 _ | (refine sees2fx ?_ c2 c3 f3; (repeat (first | exact bnil _ | refine Below.drew ?_ | refine bnew ?_ _))))
        clear hK K
        try dsimp only [Act.put]
        refine wpAnyH_done (by kernel_rfl) ?_ _
        rotate_left
        refine AllReadyH.cons (o := ⟨some 47, _, _, _, _, _⟩) rfl (fun K hK => ?_) AllReadyH.nil
        go_simp
        refine hK.out _ _ ?_ (fun hHeld => ?_)
        · (try dsimp only); (first | assumption | exact ⟨c2, f3⟩ | exact HZ.1 | exact HZ.2.2 _ | (refine sees2fx ?_ c2 c3 f3; (repeat (first | exact bnil _ | refine Below.drew ?_ | refine bnew ?_ _))))
        clear hK K
        try simp only [Act.put, List.setIfInBounds_toArray, List.set_cons_zero, List.set_cons_succ]
        refine wpAnyH_ready (rs := [5]) (by kernel_rfl) (by simp) ?_
        refine AllReadyH.cons (o := ⟨some 45, _, _, _, _, _⟩) rfl (fun K hK => ?_) AllReadyH.nil
        go_simp
        refine hK.out _ _ ?_ (fun hHeld => ?_)
        · (try dsimp only); (first | assumption | exact ⟨c2, f3⟩ | exact HZ.1 | exact HZ.2.2 _ | (refine sees2fx ?_ c2 c3 f3; (repeat (first | exact bnil _ | refine Below.drew ?_ | refine bnew ?_ _))))
        clear hK K
        try simp only [Act.put, List.setIfInBounds_toArray, List.set_cons_zero, List.set_cons_succ]
        refine wpAnyH_ready (rs := [8]) (by kernel_rfl) (by simp) ?_
        refine AllReadyH.cons (o := ⟨some 48, _, _, _, _, _⟩) rfl (fun K hK => ?_) AllReadyH.nil
        (refine step_appC elmCN gS_one rfl (.tmp 45) (.tmp 47) rfl (.slice Aj k cj) ((oneTh (xcalls (fun i : Nat => (i : Int)) cs k) 0).zip (av 0)) rfl (HOW.out _ (bnew (bnil _) _).drew) [((⟨1, []⟩ : VCall), (⟨none, 0, 0⟩ : SV))] y HYE rfl (Sl.drew (Sl.fresh' _ #[_, _] 53 2 1 _ (by simp) rfl)) rfl (by rw [HYL.out]; simp only [maxLen]; omega) (by rw [HYL.out]; omega) (Nat.le_trans HBS.out (bnew (bnil _) _).drew.size) ?_; intro E6 c6 w6 hc6 hc7 HN6 HG6 HO6; have HZ := HGW.out _ w6 (bnew (bnil _) _).drew HG6.out)
        refine hK.out _ _ ?_ (fun hHeld => ?_)
        · (try dsimp only); (first | assumption | exact ⟨c2, f3⟩ | exact HZ.1 | exact HZ.2.2 _ | (refine sees2fx ?_ c2 c3 f3; (repeat (first | exact bnil _ | refine Below.drew ?_ | refine bnew ?_ _))))
        clear hK K
        try simp only [Act.put, List.setIfInBounds_toArray, List.set_cons_zero, List.set_cons_succ]
        refine wpAnyH_take (i := 9) (oi := ⟨some 49, _, _, _, _, _⟩) (v := ?_) rfl (by kernel_rfl) (by kernel_rfl) (by kernel_rfl) (fun _ _ _ h => h) (Or.inl ⟨by rfl, ?_⟩) (by assumption) ?_
        rotate_left
        · intro w hSw; (try dsimp only at hSw); go_simp <;> with_reducible rfl
        try simp only [Act.put, List.setIfInBounds_toArray, List.set_cons_zero, List.set_cons_succ]
        refine wpAnyH_ready (rs := [10]) (by kernel_rfl) (by simp) ?_
        refine AllReadyH.cons (o := ⟨none, _, _, _, _, _⟩) rfl (fun K hK => ?_) AllReadyH.nil
        go_simp
        refine hK.out _ _ ?_ (fun hHeld => ?_)
        · (try dsimp only); (first | assumption | exact ⟨c2, f3⟩ | exact HZ.1 | exact HZ.2.2 _ | (refine sees2fx ?_ c2 c3 f3; (repeat (first | exact bnil _ | refine Below.drew ?_ | refine bnew ?_ _))))
        clear hK K
        try dsimp only [Act.put]
        refine wpAnyH_done (by kernel_rfl) ?_ _
        rotate_left
        all_goals
          have H6 := hid (H.out.push (c := ⟨1, []⟩) (a := ⟨none, 0, 0⟩) (wA := ((wr.alloc (.cells #[.int .i64 1, .slice none 0 0] 53))).drew) (bnew (bnil _) _).drew (fun b hb => by cases hb) HFR.out HYE.out (by rw [HAJ.out]; exact HG6.out) (by rw [HAJ.out]; exact HO6.out) HN6.out)
          clear HZ HG6 HO6 HN6
          rw [← HNX.out, ← xcalls_next] at H6
          generalize World.setCell w6 _ _ = w7 at *
          have HB7 := hid H6.out.below.size
          have HOWN := hid (show ∀ w', Below w7.heap.size w7 w' → w'.ownsRow w.heap.size 3 1 (.slice Aw k cw) (xwant false N (fun i : Nat => (i : Int)) cs k).length ((xwant false N (fun i : Nat => (i : Int)) cs k).flatMap gI) from fun w' hb => own_below H6.out.want hb)
          have hcl : hs = [] ∨ ∃ x l, hs = l ++ [x] := by rcases List.eq_nil_or_concat hs with h | ⟨l, x, h⟩; exact .inl h; exact .inr ⟨x, l, by rw [h, List.concat_eq_append]⟩
          rcases hcl with rfl | ⟨x, l, rfl⟩
          · have e0 : Lh = 0 := by rw [← HLH.out]; rfl
            subst e0
            obtain ⟨y1, hy1⟩ : ∃ y1, (xwant false N (fun i : Nat => (i : Int)) cs k) ++ [(-1 : Int)] = y1 := ⟨_, rfl⟩
            have HY1 := hid hy1
            have HYN1 := hid (show y1.length = k + 1 by rw [← hy1, List.length_append, xwant_len]; rfl)
            clear hy1
            go_wp2_with (at_builtin; refine wpList_appC elmI gI_one rfl (.tmp 53) (.tmp 54) rfl (.slice Aw k cw) (xwant false N (fun i : Nat => (i : Int)) cs k) rfl (HOWN.out _ (bnew (bnil w7) _)) [(-1 : Int)] y1 HY1 rfl (Sl.fresh w7 #[_] 3 1 1 rfl) rfl (by rw [HYN1.out]; simp only [maxLen]; omega) (by rw [HYN1.out]; omega) (Nat.le_trans HB7.out (bnew (bnil w7) _).size) ?_; intro A8 c8 w8 hc8 hc8' HN8 HG8 HO8; have H8 := hid (H6.out.app (bnew (bnil w7) _) HG8.out HN8.out HO8.out); clear HG8 HO8)
            have E2 := hid (show (xwant false N (fun i : Nat => (i : Int)) cs (k + 1)) = y1 by rw [HWN.out, ← HY1.out]; rfl)
            have E3 := hid (show (xhas false N (fun i : Nat => (i : Int)) cs (k + 1)) = [] by rw [HHN.out]; rfl)
            rw [HYN1.out] at *
            go_roundw
            case rel => exact ⟨k + 1, 0, A8, Ah, c8, ch, _, _, by omega, by go_num, rfl, rfl, Nat.zero_le _, hid (by rw [E3.out]; rfl), hid (by rw [E2.out, E3.out]; exact H8.out)⟩
            case measure => simp [intOf]; omega
          · have e0 : Lh = l.length + 1 := by rw [← HLH.out, List.length_append]; rfl
            obtain ⟨M, hM0⟩ : ∃ M, l.length = M := ⟨_, rfl⟩
            have hM : (Lh : Int) - 1 = (M : Int) := by omega
            have HM0 := hid hM0
            have hcn : ∃ y l', l ++ [x] = y :: l' := by cases l with | nil => exact ⟨x, [], rfl⟩ | cons y l' => exact ⟨y, l' ++ [x], rfl⟩
            obtain ⟨y0, l', hyl⟩ := hcn
            have HQ7 := hid H6.out.has
            obtain ⟨bh, oh, hAh, hle, hcc⟩ := (show OwnQ w7 w.heap.size (.slice Ah Lh ch) (y0 :: l') by rw [← hyl]; exact HQ7.out).cons_form
            subst hAh
            have cq0 : w7.cell? ⟨bh, oh + M, none⟩ = some (.int .i64 x) := HQ7.out.cell (j := M) (by rw [List.getElem?_append_right (by omega), ← hM0, Nat.sub_self]; rfl)
            have ltq : bh < w7.heap.size := World.block_lt_of_cell? w7 _ cq0
            have bq : ((Lh : Int) == 0) = false := beqF (by omega)
            have iq : (M : Int) < (Lh : Int) := by omega
            have iq1 : (M : Int) ≤ (ch : Int) := by omega
            obtain ⟨y1, hy1⟩ : ∃ y1, (xwant false N (fun i : Nat => (i : Int)) cs k) ++ [x] = y1 := ⟨_, rfl⟩
            have HY1 := hid hy1
            have HYN1 := hid (show y1.length = k + 1 by rw [← hy1, List.length_append, xwant_len]; rfl)
            have HCC := hid hcc; have HE0 := hid e0
            have HOT := hid (show xres false N (l ++ [x]) false 0 = (x, l) from xres_last N l x)
            clear hy1 e0 hM0 hle hyl y0 l'
            go_wp2_with (at_builtin; refine wpList_appC elmI gI_one rfl (.tmp 56) (.tmp 63) rfl (.slice Aw k cw) (xwant false N (fun i : Nat => (i : Int)) cs k) rfl (HOWN.out _ (bnew (bnil w7) _)) [x] y1 HY1 rfl (Sl.fresh w7 #[_] 3 1 1 rfl) rfl (by rw [HYN1.out]; simp only [maxLen]; omega) (by rw [HYN1.out]; omega) (Nat.le_trans HB7.out (bnew (bnil w7) _).size) ?_; intro A8 c8 w8 hc8 hc8' HN8 HG8 HO8; have H8 := hid (H6.out.app (bnew (bnil w7) _) HG8.out HN8.out HO8.out); clear HG8 HO8)
            have E2 := hid (show (xwant false N (fun i : Nat => (i : Int)) cs (k + 1)) = y1 by rw [HWN.out, HOT.out, ← HY1.out])
            have E3 := hid (show (xhas false N (fun i : Nat => (i : Int)) cs (k + 1)) = l by rw [HHN.out, HOT.out])
            rw [HYN1.out] at *
            have HQ1 := hid (show OwnQ w8 w.heap.size (.slice (some ⟨bh, oh, none⟩) M ch) l by have h := H8.out.has.pre M (by rw [List.length_append]; have := HM0.out; omega); rw [List.take_append_of_le_length (by rw [HM0.out]; exact Nat.le_refl _), List.take_of_length_le (by rw [HM0.out]; exact Nat.le_refl _)] at h; exact h)
            have H9 := hid (H8.out.hset HQ1.out rfl)
            refine ⟨⟨k + 1, M, A8, some ⟨bh, oh, none⟩, c8, ch, _, _, by omega, by go_num, rfl, rfl, by omega, hid (by rw [E3.out]; exact HM0.out), hid (by rw [E2.out, E3.out]; exact H9.out)⟩, by simp [intOf]; omega⟩
      | false =>
        have HNX := hid (show xcall (fun i : Nat => (i : Int)) cs k = ⟨0, [(k : Int)]⟩ by unfold xcall; rw [HB.out, HXF.out]; rfl)
        have HHN := hid (show (xhas false N (fun i : Nat => (i : Int)) cs (k + 1)) = (xres false N hs true (k : Int)).2 by show (xres false N (xhas false N (fun i : Nat => (i : Int)) cs k) (!xtake cs k) ((fun i : Nat => (i : Int)) k)).2 = _; rw [HB.out, HHS.out, HXF.out]; rfl)
        have HWN := hid (show (xwant false N (fun i : Nat => (i : Int)) cs (k + 1)) = (xwant false N (fun i : Nat => (i : Int)) cs k) ++ [(xres false N hs true (k : Int)).1] by rw [xwant_next]; unfold xtold; rw [HB.out, HHS.out, HXF.out]; rfl)
        have HYL0 := hid (show ((oneTh (xcalls (fun i : Nat => (i : Int)) cs k) 0).zip (av 0)).length = k by rw [List.length_zip, HROW.out.1, HLL.out]; simp)
        obtain ⟨y, hy⟩ : ∃ y, (oneTh (xcalls (fun i : Nat => (i : Int)) cs k) 0).zip (av 0) ++ [((⟨0, [(k : Int)]⟩ : VCall), (⟨some ⟨wr.heap.size, 0, none⟩, 1, 1⟩ : SV))] = y := ⟨_, rfl⟩
        have HYE := hid hy
        have HYL := hid (show y.length = k + 1 by rw [← hy, List.length_append, HYL0.out]; simp)
        clear hy
        have HFR := hid (show ((wr.alloc (.cells #[.int .i64 (k : Int)] 3)).alloc (.cells #[.int .i64 0, .slice (some ⟨wr.heap.size, 0, none⟩) 1 1] 53)).drew.ownsRow w.heap.size 3 1 (.slice (some ⟨wr.heap.size, 0, none⟩) 1 1) 1 ([(k : Int)].flatMap gI) from
          own_below (own_fresh wr #[.int .i64 (k : Int)] 3 1 1 _ _ rfl HBS.out rfl (by simp [maxLen])) (bnew (bnil _) _).drew)
        have hcx : (∃ ad, D = some ad ∧ wr.cell? (ad.add k) = some (.bool false) ∧ (k : Int) < (r : Int)) ∨ ¬ ((k : Int) < (r : Int)) := by
          rcases HBB.out with ⟨h2, ad, e, c⟩ | ⟨h2, _⟩
          · exact .inl ⟨ad, e, c, by omega⟩
          · exact .inr (by omega)
        rcases hcx with ⟨ad, rfl, cx, i2⟩ | i2
        all_goals
          go_upto_region 17 with fail
          refine wp_region_held_drew (S := (fun w' => w'.cell? ⟨X, 2, none⟩ = some (.slice (some ⟨T, 0, none⟩) 1 1) ∧ w'.frozen? ⟨T, 0, none⟩ = false)) (by kernel_rfl) ?_ (fun hHeld => ?_)
          · (try dsimp only); (first | assumption | exact ⟨c2, f3⟩ | exact HZ.1 | exact HZ.2.2 _ | (refine sees2fx ?_ c2 c3 f3; (repeat (first | exact bnil _ | refine Below.drew ?_ | refine bnew ?_ _))))
          refine wpAnyH_take (i := 0) (oi := ⟨some 70, _, _, _, _, _⟩) (v := ?_) rfl (by kernel_rfl) (by kernel_rfl) (by kernel_rfl) (fun _ _ _ h => h) (Or.inl ⟨by rfl, ?_⟩) (by assumption) ?_
          rotate_left
          · intro w hSw; (try dsimp only at hSw); go_simp <;> with_reducible rfl
          try simp only [Act.put, List.setIfInBounds_toArray, List.set_cons_zero, List.set_cons_succ]
          refine wpAnyH_take (i := 1) (oi := ⟨some 71, _, _, _, _, _⟩) (v := ?_) rfl (by kernel_rfl) (by kernel_rfl) (by kernel_rfl) (fun _ _ _ h => h) (Or.inl ⟨by rfl, ?_⟩) (by assumption) ?_
          rotate_left
          · intro w hSw; (try dsimp only at hSw); go_simp <;> with_reducible rfl
          try simp only [Act.put, List.setIfInBounds_toArray, List.set_cons_zero, List.set_cons_succ]
          refine wpAnyH_take (i := 2) (oi := ⟨some 72, _, _, _, _, _⟩) (v := ?_) rfl (by kernel_rfl) (by kernel_rfl) (by kernel_rfl) (fun _ _ _ h => h) (Or.inl ⟨by rfl, ?_⟩) (by assumption) ?_
          rotate_left
          · intro w hSw; (try dsimp only at hSw); go_simp <;> with_reducible rfl
          try simp only [Act.put, List.setIfInBounds_toArray, List.set_cons_zero, List.set_cons_succ]
          refine wpAnyH_take (i := 3) (oi := ⟨some 73, _, _, _, _, _⟩) (v := ?_) rfl (by kernel_rfl) (by kernel_rfl) (by kernel_rfl) (fun _ _ _ h => h) (Or.inl ⟨by rfl, ?_⟩) (by assumption) ?_
          rotate_left
          · intro w hSw; (try dsimp only at hSw); go_simp <;> with_reducible rfl
          try simp only [Act.put, List.setIfInBounds_toArray, List.set_cons_zero, List.set_cons_succ]
          refine wpAnyH_take (i := 4) (oi := ⟨some 74, _, _, _, _, _⟩) (v := ?_) rfl (by kernel_rfl) (by kernel_rfl) (by kernel_rfl) (fun _ _ _ h => h) (Or.inl ⟨by rfl, ?_⟩) (by assumption) ?_
          rotate_left
          · intro w hSw; (try dsimp only at hSw); go_simp <;> with_reducible rfl
          try simp only [Act.put, List.setIfInBounds_toArray, List.set_cons_zero, List.set_cons_succ]
          refine wpAnyH_take (i := 6) (oi := ⟨some 76, _, _, _, _, _⟩) (v := ?_) rfl (by kernel_rfl) (by kernel_rfl) (by kernel_rfl) (fun _ _ _ h => h) (Or.inl ⟨by rfl, ?_⟩) (by assumption) ?_
          rotate_left
          · intro w hSw; (try dsimp only at hSw); go_simp <;> with_reducible rfl
          try simp only [Act.put, List.setIfInBounds_toArray, List.set_cons_zero, List.set_cons_succ]
          refine wpAnyH_ready (rs := [5, 7]) (by kernel_rfl) (by simp) ?_
          refine AllReadyH.cons (o := ⟨some 75, _, _, _, _, _⟩) rfl (fun K hK => ?_) ?_
          go_simp
          refine hK.out _ _ ?_ (fun hHeld => ?_)
          · (try dsimp only); (first | assumption | exact ⟨c2, f3⟩ | exact HZ.1 | exact HZ.2.2 _ | (refine sees2fx ?_ c2 c3 f3; (repeat (first | exact bnil _ | refine Below.drew ?_ | refine bnew ?_ _))))
          clear hK K
          try simp only [Act.put, List.setIfInBounds_toArray, List.set_cons_zero, List.set_cons_succ]
          refine wpAnyH_ready (rs := [7]) (by kernel_rfl) (by simp) ?_
          refine AllReadyH.cons (o := ⟨some 77, _, _, _, _, _⟩) rfl (fun K hK => ?_) AllReadyH.nil
          go_simp
          refine hK.out _ _ ?_ (fun hHeld => ?_)
          · (try dsimp only); (first | assumption | exact ⟨c2, f3⟩ | exact HZ.1 | exact HZ.2.2 _ | (refine sees2fx ?_ c2 c3 f3; (repeat (first | exact bnil _ | refine Below.drew ?_ | refine bnew ?_ _))))
          clear hK K
          try simp only [Act.put, List.setIfInBounds_toArray, List.set_cons_zero, List.set_cons_succ]
          refine wpAnyH_take (i := 8) (oi := ⟨some 78, _, _, _, _, _⟩) (v := ?_) rfl (by kernel_rfl) (by kernel_rfl) (by kernel_rfl) (fun _ _ _ h => h) (Or.inl ⟨by rfl, ?_⟩) (by assumption) ?_
          rotate_left
          · intro w hSw; (try dsimp only at hSw); go_simp <;> with_reducible rfl
          try simp only [Act.put, List.setIfInBounds_toArray, List.set_cons_zero, List.set_cons_succ]
          refine wpAnyH_ready (rs := [9]) (by kernel_rfl) (by simp) ?_
          refine AllReadyH.cons (o := ⟨some 79, _, _, _, _, _⟩) rfl (fun K hK => ?_) AllReadyH.nil
          go_simp
          refine hK.out _ _ ?_ (fun hHeld => ?_)
          · (try dsimp only); (first | assumption | exact ⟨c2, f3⟩ | exact HZ.1 | exact HZ.2.2 _ | (refine sees2fx ?_ c2 c3 f3; (repeat (first | exact bnil _ | refine Below.drew ?_ | refine bnew ?_ _))))
          clear hK K
          try simp only [Act.put, List.setIfInBounds_toArray, List.set_cons_zero, List.set_cons_succ]
          refine wpAnyH_ready (rs := [10]) (by kernel_rfl) (by simp) ?_
          refine AllReadyH.cons (o := ⟨some 80, _, _, _, _, _⟩) rfl (fun K hK => ?_) AllReadyH.nil
          (refine step_appC elmCN gS_one rfl (.tmp 75) (.tmp 79) rfl (.slice Aj k cj) ((oneTh (xcalls (fun i : Nat => (i : Int)) cs k) 0).zip (av 0)) rfl (HOW.out _ (bnew (bnew (bnil _) _) _).drew) [((⟨0, [(k : Int)]⟩ : VCall), (⟨some ⟨wr.heap.size, 0, none⟩, 1, 1⟩ : SV))] y HYE rfl (Sl.drew (Sl.fresh' _ #[_, _] 53 2 1 _ (by simp) rfl)) rfl (by rw [HYL.out]; simp only [maxLen]; omega) (by rw [HYL.out]; omega) (Nat.le_trans HBS.out (bnew (bnew (bnil _) _) _).drew.size) ?_; intro E6 c6 w6 hc6 hc7 HN6 HG6 HO6; have HZ := HGW.out _ w6 (bnew (bnew (bnil _) _) _).drew HG6.out)
          refine hK.out _ _ ?_ (fun hHeld => ?_)
          · (try dsimp only); (first | assumption | exact ⟨c2, f3⟩ | exact HZ.1 | exact HZ.2.2 _ | (refine sees2fx ?_ c2 c3 f3; (repeat (first | exact bnil _ | refine Below.drew ?_ | refine bnew ?_ _))))
          clear hK K
          try simp only [Act.put, List.setIfInBounds_toArray, List.set_cons_zero, List.set_cons_succ]
          refine wpAnyH_take (i := 11) (oi := ⟨some 81, _, _, _, _, _⟩) (v := ?_) rfl (by kernel_rfl) (by kernel_rfl) (by kernel_rfl) (fun _ _ _ h => h) (Or.inl ⟨by rfl, ?_⟩) (by assumption) ?_
          rotate_left
          · intro w hSw; (try dsimp only at hSw); go_simp <;> with_reducible rfl
          try simp only [Act.put, List.setIfInBounds_toArray, List.set_cons_zero, List.set_cons_succ]
          refine wpAnyH_ready (rs := [12]) (by kernel_rfl) (by simp) ?_
          refine AllReadyH.cons (o := ⟨none, _, _, _, _, _⟩) rfl (fun K hK => ?_) AllReadyH.nil
          go_simp
          refine hK.out _ _ ?_ (fun hHeld => ?_)
          · (try dsimp only); (first | assumption | exact ⟨c2, f3⟩ | exact HZ.1 | exact HZ.2.2 _ | (refine sees2fx ?_ c2 c3 f3; (repeat (first | exact bnil _ | refine Below.drew ?_ | refine bnew ?_ _))))
          clear hK K
          try dsimp only [Act.put]
          refine wpAnyH_done (by kernel_rfl) ?_ _
          rotate_left
          refine AllReadyH.cons (o := ⟨some 77, _, _, _, _, _⟩) rfl (fun K hK => ?_) AllReadyH.nil
          go_simp
          refine hK.out _ _ ?_ (fun hHeld => ?_)
          · (try dsimp only); (first | assumption | exact ⟨c2, f3⟩ | exact HZ.1 | exact HZ.2.2 _ | (refine sees2fx ?_ c2 c3 f3; (repeat (first | exact bnil _ | refine Below.drew ?_ | refine bnew ?_ _))))
          clear hK K
          try simp only [Act.put, List.setIfInBounds_toArray, List.set_cons_zero, List.set_cons_succ]
          refine wpAnyH_take (i := 8) (oi := ⟨some 78, _, _, _, _, _⟩) (v := ?_) rfl (by kernel_rfl) (by kernel_rfl) (by kernel_rfl) (fun _ _ _ h => h) (Or.inl ⟨by rfl, ?_⟩) (by assumption) ?_
          rotate_left
          · intro w hSw; (try dsimp only at hSw); go_simp <;> with_reducible rfl
          try simp only [Act.put, List.setIfInBounds_toArray, List.set_cons_zero, List.set_cons_succ]
          refine wpAnyH_ready (rs := [5, 9]) (by kernel_rfl) (by simp) ?_
          refine AllReadyH.cons (o := ⟨some 75, _, _, _, _, _⟩) rfl (fun K hK => ?_) ?_
          go_simp
          refine hK.out _ _ ?_ (fun hHeld => ?_)
          · (try dsimp only); (first | assumption | exact ⟨c2, f3⟩ | exact HZ.1 | exact HZ.2.2 _ | (refine sees2fx ?_ c2 c3 f3; (repeat (first | exact bnil _ | refine Below.drew ?_ | refine bnew ?_ _))))
          clear hK K
          try simp only [Act.put, List.setIfInBounds_toArray, List.set_cons_zero, List.set_cons_succ]
          refine wpAnyH_ready (rs := [9]) (by kernel_rfl) (by simp) ?_
          refine AllReadyH.cons (o := ⟨some 79, _, _, _, _, _⟩) rfl (fun K hK => ?_) AllReadyH.nil
          go_simp
          refine hK.out _ _ ?_ (fun hHeld => ?_)
          · (try dsimp only); (first | assumption | exact ⟨c2, f3⟩ | exact HZ.1 | exact HZ.2.2 _ | (refine sees2fx ?_ c2 c3 f3; (repeat (first | exact bnil _ | refine Below.drew ?_ | refine bnew ?_ _))))
          clear hK K
          try simp only [Act.put, List.setIfInBounds_toArray, List.set_cons_zero, List.set_cons_succ]
          refine wpAnyH_ready (rs := [10]) (by kernel_rfl) (by simp) ?_
          refine AllReadyH.cons (o := ⟨some 80, _, _, _, _, _⟩) rfl (fun K hK => ?_) AllReadyH.nil
          (refine step_appC elmCN gS_one rfl (.tmp 75) (.tmp 79) rfl (.slice Aj k cj) ((oneTh (xcalls (fun i : Nat => (i : Int)) cs k) 0).zip (av 0)) rfl (HOW.out _ (bnew (bnew (bnil _) _) _).drew) [((⟨0, [(k : Int)]⟩ : VCall), (⟨some ⟨wr.heap.size, 0, none⟩, 1, 1⟩ : SV))] y HYE rfl (Sl.drew (Sl.fresh' _ #[_, _] 53 2 1 _ (by simp) rfl)) rfl (by rw [HYL.out]; simp only [maxLen]; omega) (by rw [HYL.out]; omega) (Nat.le_trans HBS.out (bnew (bnew (bnil _) _) _).drew.size) ?_; intro E6 c6 w6 hc6 hc7 HN6 HG6 HO6; have HZ := HGW.out _ w6 (bnew (bnew (bnil _) _) _).drew HG6.out)
          refine hK.out _ _ ?_ (fun hHeld => ?_)
          · (try dsimp only); (first | assumption | exact ⟨c2, f3⟩ | exact HZ.1 | exact HZ.2.2 _ | (refine sees2fx ?_ c2 c3 f3; (repeat (first | exact bnil _ | refine Below.drew ?_ | refine bnew ?_ _))))
          clear hK K
          try simp only [Act.put, List.setIfInBounds_toArray, List.set_cons_zero, List.set_cons_succ]
          refine wpAnyH_take (i := 11) (oi := ⟨some 81, _, _, _, _, _⟩) (v := ?_) rfl (by kernel_rfl) (by kernel_rfl) (by kernel_rfl) (fun _ _ _ h => h) (Or.inl ⟨by rfl, ?_⟩) (by assumption) ?_
          rotate_left
          · intro w hSw; (try dsimp only at hSw); go_simp <;> with_reducible rfl
          try simp only [Act.put, List.setIfInBounds_toArray, List.set_cons_zero, List.set_cons_succ]
          refine wpAnyH_ready (rs := [12]) (by kernel_rfl) (by simp) ?_
          refine AllReadyH.cons (o := ⟨none, _, _, _, _, _⟩) rfl (fun K hK => ?_) AllReadyH.nil
          go_simp
          refine hK.out _ _ ?_ (fun hHeld => ?_)
          · (try dsimp only); (first | assumption | exact ⟨c2, f3⟩ | exact HZ.1 | exact HZ.2.2 _ | (refine sees2fx ?_ c2 c3 f3; (repeat (first | exact bnil _ | refine Below.drew ?_ | refine bnew ?_ _))))
          clear hK K
          try dsimp only [Act.put]
          refine wpAnyH_done (by kernel_rfl) ?_ _
          rotate_left
          refine AllReadyH.cons (o := ⟨some 79, _, _, _, _, _⟩) rfl (fun K hK => ?_) AllReadyH.nil
          go_simp
          refine hK.out _ _ ?_ (fun hHeld => ?_)
          · (try dsimp only); (first | assumption | exact ⟨c2, f3⟩ | exact HZ.1 | exact HZ.2.2 _ | (refine sees2fx ?_ c2 c3 f3; (repeat (first | exact bnil _ | refine Below.drew ?_ | refine bnew ?_ _))))
          clear hK K
          try simp only [Act.put, List.setIfInBounds_toArray, List.set_cons_zero, List.set_cons_succ]
          refine wpAnyH_ready (rs := [5]) (by kernel_rfl) (by simp) ?_
          refine AllReadyH.cons (o := ⟨some 75, _, _, _, _, _⟩) rfl (fun K hK => ?_) AllReadyH.nil
          go_simp
          refine hK.out _ _ ?_ (fun hHeld => ?_)
          · (try dsimp only); (first | assumption | exact ⟨c2, f3⟩ | exact HZ.1 | exact HZ.2.2 _ | (refine sees2fx ?_ c2 c3 f3; (repeat (first | exact bnil _ | refine Below.drew ?_ | refine bnew ?_ _))))
          clear hK K
          try simp only [Act.put, List.setIfInBounds_toArray, List.set_cons_zero, List.set_cons_succ]
          refine wpAnyH_ready (rs := [10]) (by kernel_rfl) (by simp) ?_
          refine AllReadyH.cons (o := ⟨some 80, _, _, _, _, _⟩) rfl (fun K hK => ?_) AllReadyH.nil
          (refine step_appC elmCN gS_one rfl (.tmp 75) (.tmp 79) rfl (.slice Aj k cj) ((oneTh (xcalls (fun i : Nat => (i : Int)) cs k) 0).zip (av 0)) rfl (HOW.out _ (bnew (bnew (bnil _) _) _).drew) [((⟨0, [(k : Int)]⟩ : VCall), (⟨some ⟨wr.heap.size, 0, none⟩, 1, 1⟩ : SV))] y HYE rfl (Sl.drew (Sl.fresh' _ #[_, _] 53 2 1 _ (by simp) rfl)) rfl (by rw [HYL.out]; simp only [maxLen]; omega) (by rw [HYL.out]; omega) (Nat.le_trans HBS.out (bnew (bnew (bnil _) _) _).drew.size) ?_; intro E6 c6 w6 hc6 hc7 HN6 HG6 HO6; have HZ := HGW.out _ w6 (bnew (bnew (bnil _) _) _).drew HG6.out)
          refine hK.out _ _ ?_ (fun hHeld => ?_)
          · (try dsimp only); (first | assumption | exact ⟨c2, f3⟩ | exact HZ.1 | exact HZ.2.2 _ | (refine sees2fx ?_ c2 c3 f3; (repeat (first | exact bnil _ | refine Below.drew ?_ | refine bnew ?_ _))))
          clear hK K
          try simp only [Act.put, List.setIfInBounds_toArray, List.set_cons_zero, List.set_cons_succ]
          refine wpAnyH_take (i := 11) (oi := ⟨some 81, _, _, _, _, _⟩) (v := ?_) rfl (by kernel_rfl) (by kernel_rfl) (by kernel_rfl) (fun _ _ _ h => h) (Or.inl ⟨by rfl, ?_⟩) (by assumption) ?_
          rotate_left
          · intro w hSw; (try dsimp only at hSw); go_simp <;> with_reducible rfl
          try simp only [Act.put, List.setIfInBounds_toArray, List.set_cons_zero, List.set_cons_succ]
          refine wpAnyH_ready (rs := [12]) (by kernel_rfl) (by simp) ?_
          refine AllReadyH.cons (o := ⟨none, _, _, _, _, _⟩) rfl (fun K hK => ?_) AllReadyH.nil
          go_simp
          refine hK.out _ _ ?_ (fun hHeld => ?_)
          · (try dsimp only); (first | assumption | exact ⟨c2, f3⟩ | exact HZ.1 | exact HZ.2.2 _ | (refine sees2fx ?_ c2 c3 f3; (repeat (first | exact bnil _ | refine Below.drew ?_ | refine bnew ?_ _))))
          clear hK K
          try dsimp only [Act.put]
          refine wpAnyH_done (by kernel_rfl) ?_ _
          rotate_left
        all_goals
          have H6 := hid (H.out.push (c := ⟨0, [(k : Int)]⟩) (a := ⟨some ⟨wr.heap.size, 0, none⟩, 1, 1⟩) (wA := ((wr.alloc (.cells #[.int .i64 (k : Int)] 3)).alloc (.cells #[.int .i64 0, .slice (some ⟨wr.heap.size, 0, none⟩) 1 1] 53)).drew) (bnew (bnew (bnil _) _) _).drew (fun b hb => by injection hb with hb; simp only at hb; omega) HFR.out HYE.out (by rw [HAJ.out]; exact HG6.out) (by rw [HAJ.out]; exact HO6.out) HN6.out)
          clear HZ HG6 HO6 HN6
          rw [← HNX.out, ← xcalls_next] at H6
          generalize World.setCell w6 _ _ = w7 at *
          have HB7 := hid H6.out.below.size
          have HOWN := hid (show ∀ w', Below w7.heap.size w7 w' → w'.ownsRow w.heap.size 3 1 (.slice Aw k cw) (xwant false N (fun i : Nat => (i : Int)) cs k).length ((xwant false N (fun i : Nat => (i : Int)) cs k).flatMap gI) from fun w' hb => own_below H6.out.want hb)
          by_cases hf : Lh = N
          · have b1 : ((Lh : Int) == (N : Int)) = true := by rw [hf]; simp
            obtain ⟨y1, hy1⟩ : ∃ y1, (xwant false N (fun i : Nat => (i : Int)) cs k) ++ [(0 : Int)] = y1 := ⟨_, rfl⟩
            have HY1 := hid hy1
            have HYN1 := hid (show y1.length = k + 1 by rw [← hy1, List.length_append, xwant_len]; rfl)
            have HF := hid hf
            clear hy1 hf
            go_wp2_with (at_builtin; refine wpList_appC elmI gI_one rfl (.tmp 86) (.tmp 87) rfl (.slice Aw k cw) (xwant false N (fun i : Nat => (i : Int)) cs k) rfl (HOWN.out _ (bnew (bnil w7) _)) [(0 : Int)] y1 HY1 rfl (Sl.fresh w7 #[_] 3 1 1 rfl) rfl (by rw [HYN1.out]; simp only [maxLen]; omega) (by rw [HYN1.out]; omega) (Nat.le_trans HB7.out (bnew (bnil w7) _).size) ?_; intro A8 c8 w8 hc8 hc8' HN8 HG8 HO8; have H8 := hid (H6.out.app (bnew (bnil w7) _) HG8.out HN8.out HO8.out); clear HG8 HO8)
            have EF := hid (show xres false N hs true (k : Int) = (0, hs) by unfold xres; rw [if_pos rfl, if_pos (HLH.out.trans HF.out)])
            have E2 := hid (show (xwant false N (fun i : Nat => (i : Int)) cs (k + 1)) = y1 by rw [HWN.out, ← HY1.out, EF.out])
            have E3 := hid (show (xhas false N (fun i : Nat => (i : Int)) cs (k + 1)) = hs by rw [HHN.out, EF.out])
            rw [HYN1.out] at *
            go_roundw
            case rel => exact ⟨k + 1, Lh, A8, Ah, c8, ch, _, _, by omega, by go_num, rfl, rfl, hLN, hid (by rw [E3.out]; exact HLH.out), hid (by rw [E2.out, E3.out]; exact H8.out)⟩
            case measure => simp [intOf]; omega
          · have b1 : ((Lh : Int) == (N : Int)) = false := beqF (by omega)
            obtain ⟨y1, hy1⟩ : ∃ y1, (xwant false N (fun i : Nat => (i : Int)) cs k) ++ [(1 : Int)] = y1 := ⟨_, rfl⟩
            have HY1 := hid hy1
            have HYN1 := hid (show y1.length = k + 1 by rw [← hy1, List.length_append, xwant_len]; rfl)
            have HF := hid hf
            have hLN2 : Lh + 1 ≤ N := by omega
            clear hy1 hf
            go_wp2_with (first
              | (at_builtin; refine wpList_appC elmI gI_one rfl (.tmp 89) (.tmp 90) rfl (.slice Aw k cw) (xwant false N (fun i : Nat => (i : Int)) cs k) rfl (HOWN.out _ (bnew (bnil w7) _)) [(1 : Int)] y1 HY1 rfl (Sl.fresh w7 #[_] 3 1 1 rfl) rfl (by rw [HYN1.out]; simp only [maxLen]; omega) (by rw [HYN1.out]; omega) (Nat.le_trans HB7.out (bnew (bnil w7) _).size) ?_; intro A8 c8 w8 hc8 hc8' HN8 HG8 HO8; have H8 := hid (H6.out.app (bnew (bnil w7) _) HG8.out HN8.out HO8.out); have HB8 := hid H8.out.below.size; clear HG8 HO8)
              | (at_builtin; refine wpList_appQ rfl (.tmp 92) (.tmp 94) rfl rfl (H8.out.has.below (bnew (bnil w8) _)) (k : Int) rfl ((Blk.new w8 3 #[.int .i64 (k : Int)]).cell 0) (Nat.le_trans HB8.out (bnew (bnil w8) _).size) (by rw [HLH.out]; omega) ?_; intro v9 w9 HN9 HG9 HO9; obtain ⟨A9, c9, hv9, hc9⟩ := HN9.out.form; subst hv9; have H9 := hid (H8.out.apph (bnew (bnil w8) _) HG9.out HN9.out HO9.out); clear HG9 HO9))
            have EF := hid (show xres false N hs true (k : Int) = (1, hs ++ [(k : Int)]) by unfold xres; rw [if_pos rfl, if_neg (fun e => HF.out (HLH.out.symm.trans e))])
            have E2 := hid (show (xwant false N (fun i : Nat => (i : Int)) cs (k + 1)) = y1 by rw [HWN.out, ← HY1.out, EF.out])
            have E3 := hid (show (xhas false N (fun i : Nat => (i : Int)) cs (k + 1)) = hs ++ [(k : Int)] by rw [HHN.out, EF.out])
            have E4 := hid (show (hs ++ [(k : Int)]).length = Lh + 1 by rw [List.length_append, HLH.out]; rfl)
            rw [HYN1.out] at *
            rw [E4.out] at H9
            go_roundw
            case rel => exact ⟨k + 1, Lh + 1, A8, A9, c8, c9, _, _, by omega, by go_num, rfl, (by first | rfl | rw [HLH.out] | rw [E4.out]), hLN2, hid (by rw [E3.out]; exact E4.out), hid (by rw [E2.out, E3.out]; exact H9.out)⟩
            case measure => simp [intOf]; omega
    · obtain rfl : k = 20 := by omega
      have i1 : ¬ (((20 : Nat) : Int)) < 20 := by omega
      have HX9 := hid H.out.hx
      have HMM := hid (x_mach (WS := (swords N)) H.out.mn (Nat.le_of_ble_eq_true rfl) (Nat.le_of_ble_eq_true rfl) spush_sh spop_sh)
      have HWW := hid H.out.hw
      have HWN := hid (show wr.ownsRow w.heap.size 3 1 (.slice Aw 20 cw) 20 ((xwant false N (fun i : Nat => (i : Int)) cs 20).flatMap gI) by have h := H.out.want; rw [xwant_len] at h; exact h)
      have HTT := hid (HT.out.below H.out.below)
      have B9 := hid H.out.below
      have HRES := hid (stack_tells ⟨h1, h8⟩ (fun i : Nat => (i : Int)) cs)
      have x0 : wr.cell? ⟨X, 0, none⟩ = some (.slice AW (2 * N + 2) cW) := HX9.out.cell 0
      have x1 : wr.cell? ⟨X, 1, none⟩ = some (.slice (some ⟨Cb, 0, none⟩) 2 2) := HX9.out.cell 1
      have x2 : wr.cell? ⟨X, 2, none⟩ = some (.slice (some ⟨T, 0, none⟩) 1 1) := HX9.out.cell 2
      have hmk := mk5000
      have HZZ := hid (zerosT 5000 wr wr.heap.size rfl)
      go_upto_region 22 with fail
      refine wp_region_held_drew (S := (fun w' => w'.cell? ⟨X, 0, none⟩ = some (.slice AW (2 * N + 2) cW) ∧ w'.cell? ⟨X, 1, none⟩ = some (.slice (some ⟨Cb, 0, none⟩) 2 2) ∧ w'.cell? ⟨X, 2, none⟩ = some (.slice (some ⟨T, 0, none⟩) 1 1))) (by kernel_rfl) ?_ (fun hHeld => ?_)
      · (try dsimp only); (first | assumption | exact ⟨x0, x1, x2⟩ | exact sees3x (bgo (bnew (bnil _) _).drew b3) x0 x1 x2 | (refine sees3x ?_ x0 x1 x2; (repeat (first | exact bnil _ | refine Below.drew ?_ | refine bnew ?_ _))))
      refine wpAnyH_take (i := 0) (oi := ⟨some 97, _, _, _, _, _⟩) (v := ?_) rfl (by kernel_rfl) (by kernel_rfl) (by kernel_rfl) (fun _ _ _ h => h) (Or.inl ⟨by rfl, ?_⟩) (by assumption) ?_
      rotate_left
      · intro w hSw; (try dsimp only at hSw); go_simp <;> with_reducible rfl
      try simp only [Act.put, List.setIfInBounds_toArray, List.set_cons_zero, List.set_cons_succ]
      refine wpAnyH_ready (rs := [1]) (by kernel_rfl) (by simp) ?_
      refine AllReadyH.cons (o := ⟨some 98, _, _, _, _, _⟩) rfl (fun K hK => ?_) AllReadyH.nil
      go_simp
      refine hK.out _ _ ?_ (fun hHeld => ?_)
      · (try dsimp only); (first | assumption | exact ⟨x0, x1, x2⟩ | exact sees3x (bgo (bnew (bnil _) _).drew b3) x0 x1 x2 | (refine sees3x ?_ x0 x1 x2; (repeat (first | exact bnil _ | refine Below.drew ?_ | refine bnew ?_ _))))
      clear hK K
      try simp only [Act.put, List.setIfInBounds_toArray, List.set_cons_zero, List.set_cons_succ]
      refine wpAnyH_ready (rs := [2]) (by kernel_rfl) (by simp) ?_
      refine AllReadyH.cons (o := ⟨some 99, _, _, _, _, _⟩) rfl (fun K hK => ?_) AllReadyH.nil
      go_simp
      refine (ran_of AW (some ⟨Cb, 0, none⟩) (some ⟨T, 0, none⟩) (some ⟨wr.heap.size, 0, none⟩) (2 * N + 2) cW 2 2 1 1 5000 5000 (stM N (fun i : Nat => (i : Int)) cs) (List.replicate 5000 0) _ (by omega) (by decide) (by decide) (by decide) (by decide) (HTT.out.below (bnew (bnil _) _).drew) (HMM.out.below (bnew (bnil _) _).drew) (Sl.own (own_below HWW.out (bnew (bnil _) _).drew)) (Sl.drew HZZ.out) (fun x hx => by rw [(List.mem_replicate.1 hx).2]; decide) HRES.out.2 (play_fin _ _)).mono ?_; rintro e w3 hp3; obtain ⟨v3, rs, rfl, hrow, hrs, htold, b3⟩ := hp3
      go_wp2_with fail
      refine hK.out _ _ ?_ (fun hHeld => ?_)
      · (try dsimp only); (first | assumption | exact ⟨x0, x1, x2⟩ | exact sees3x (bgo (bnew (bnil _) _).drew b3) x0 x1 x2 | (refine sees3x ?_ x0 x1 x2; (repeat (first | exact bnil _ | refine Below.drew ?_ | refine bnew ?_ _))))
      clear hK K
      try simp only [Act.put, List.setIfInBounds_toArray, List.set_cons_zero, List.set_cons_succ]
      refine wpAnyH_take (i := 3) (oi := ⟨some 96, _, _, _, _, _⟩) (v := ?_) rfl (by kernel_rfl) (by kernel_rfl) (by kernel_rfl) (fun _ _ _ h => h) (Or.inl ⟨by rfl, ?_⟩) (by assumption) ?_
      rotate_left
      · intro w hSw; (try dsimp only at hSw); go_simp <;> with_reducible rfl
      try simp only [Act.put, List.setIfInBounds_toArray, List.set_cons_zero, List.set_cons_succ]
      refine wpAnyH_take (i := 4) (oi := ⟨some 100, _, _, _, _, _⟩) (v := ?_) rfl (by kernel_rfl) (by kernel_rfl) (by kernel_rfl) (fun _ _ _ h => h) (Or.inl ⟨by rfl, ?_⟩) (by assumption) ?_
      rotate_left
      · intro w hSw; (try dsimp only at hSw); go_simp <;> with_reducible rfl
      try simp only [Act.put, List.setIfInBounds_toArray, List.set_cons_zero, List.set_cons_succ]
      refine wpAnyH_take (i := 5) (oi := ⟨some 101, _, _, _, _, _⟩) (v := ?_) rfl (by kernel_rfl) (by kernel_rfl) (by kernel_rfl) (fun _ _ _ h => h) (Or.inl ⟨by rfl, ?_⟩) (by assumption) ?_
      rotate_left
      · intro w hSw; (try dsimp only at hSw); go_simp <;> with_reducible rfl
      try simp only [Act.put, List.setIfInBounds_toArray, List.set_cons_zero, List.set_cons_succ]
      refine wpAnyH_take (i := 6) (oi := ⟨some 11, _, _, _, _, _⟩) (v := ?_) rfl (by kernel_rfl) (by kernel_rfl) (by kernel_rfl) (fun _ _ _ h => h) (Or.inl ⟨by rfl, ?_⟩) (by assumption) ?_
      rotate_left
      · intro w hSw; (try dsimp only at hSw); go_simp <;> with_reducible rfl
      try simp only [Act.put, List.setIfInBounds_toArray, List.set_cons_zero, List.set_cons_succ]
      refine wpAnyH_take (i := 7) (oi := ⟨some 12, _, _, _, _, _⟩) (v := ?_) rfl (by kernel_rfl) (by kernel_rfl) (by kernel_rfl) (fun _ _ _ h => h) (Or.inl ⟨by rfl, ?_⟩) (by assumption) ?_
      rotate_left
      · intro w hSw; (try dsimp only at hSw); go_simp <;> with_reducible rfl
      try simp only [Act.put, List.setIfInBounds_toArray, List.set_cons_zero, List.set_cons_succ]
      refine wpAnyH_done (by kernel_rfl) ?_ _
      rotate_left
      all_goals
        obtain ⟨A3, c3, rfl, hc3, hc3'⟩ := own_form hrow
        have hLD : rs.length = 20 := by have := congrArg List.length hrs; rw [List.length_map] at this; exact this.trans HRES.out.1.len
        rw [hLD] at hrow hc3 ⊢
        have HD := hid (DsAt.mk hLD hrow htold)
        have B3 := hid (bgo (bnew (bnil wr) (.cells (madeCells #[Value.int .i64 0] 5000) 3)).drew b3)
        have HRS := hid hrs
        have HWN3 := hid (own_below HWN.out B3.out)
        obtain ⟨bw, cw', ew, hbw, hcell⟩ := own_at HWN3.out (by decide)
        have HWC := hid hcell
        clear hcell
        injection ew with ew1 ew2 ew3
        clear ew2 ew3
        subst ew1
        clear hrow htold hrs b3 hLD HZZ hmk x0 x1 x2 HX9 HMM HWW HTT H
        go_wp2_with fail
        go_loopw [13] (fun i wz => ∃ k : Nat, k ≤ 20 ∧ i = .int .i64 k ∧ Hid (Below w3.heap.size w3 wz)) (fun i _ => 20 - (intOf i).toNat)
        case atStart => exact ⟨0, Nat.zero_le _, rfl, hid (bnil _)⟩
        case round =>
          obtain ⟨k, hk, rfl, BR⟩ := hrel
          by_cases hlt : k < 20
          · have j1 : (k : Int) < 20 := by omega
            obtain ⟨b9, d, At, ct, rfl, hd, lt9, u0, u1, u2, u3, u4, ut⟩ := (HD.out.below BR.out).at_ hlt
            rw [HRS.out] at hd
            obtain ⟨_, _, ⟨e, he⟩, htd⟩ := HRES.out.1.at_ k d hd
            obtain ⟨x, hx⟩ : ∃ x, xtold false N (fun i : Nat => (i : Int)) cs k = x := ⟨_, rfl⟩
            have hx2 := xwant_at (q := false) (N := N) (f := fun i : Nat => (i : Int)) (kinds := cs) hlt
            rw [hx] at htd hx2
            rw [he] at u1
            simp only [eI] at u1
            have en : ((e : Int) == -1) = false := beqF (by omega)
            have hl1 : d.told.length = 1 := by rw [htd]; rfl
            have hs := Sl.own ut
            rw [hl1] at u4
            rw [hl1, htd] at hs
            have HSS := hid hs
            have hcx : wr.cell? ⟨bw, k, none⟩ = some (.int .i64 x) := cell_below BR.out (HWC.out k _ (ints_at hx2))
            clear hd ut hs htd he hl1 hx hx2 u0 u2 u3
            go_upto_region 28 with fail
            refine wp_region_held_drew (S := (fun w' => w'.cell? ⟨b9, k * 5 + 1, none⟩ = some (.int .i64 (e : Int)) ∧ w'.cell? ⟨b9, k * 5 + 4, none⟩ = some (.slice At 1 ct) ∧ w'.cell? ⟨bw, k, none⟩ = some (.int .i64 x))) (by kernel_rfl) ?_ (fun hHeld => ?_)
            · (try dsimp only); (first | assumption | exact ⟨u1, u4, hcx⟩ | exact sees3x (bgo (bnew (bnil _) _).drew b5) u1 u4 hcx | (refine sees3x ?_ u1 u4 hcx; (repeat (first | exact bnil _ | refine Below.drew ?_ | refine bnew ?_ _))))
            refine wpAnyH_take (i := 0) (oi := ⟨some 113, _, _, _, _, _⟩) (v := ?_) rfl (by kernel_rfl) (by kernel_rfl) (by kernel_rfl) (fun _ _ _ h => h) (Or.inl ⟨by rfl, ?_⟩) (by assumption) ?_
            rotate_left
            · intro w hSw; (try dsimp only at hSw); go_simp <;> with_reducible rfl
            try simp only [Act.put, List.setIfInBounds_toArray, List.set_cons_zero, List.set_cons_succ]
            refine wpAnyH_take (i := 1) (oi := ⟨some 114, _, _, _, _, _⟩) (v := ?_) rfl (by kernel_rfl) (by kernel_rfl) (by kernel_rfl) (fun _ _ _ h => h) (Or.inl ⟨by rfl, ?_⟩) (by assumption) ?_
            rotate_left
            · intro w hSw; (try dsimp only at hSw); go_simp <;> with_reducible rfl
            try simp only [Act.put, List.setIfInBounds_toArray, List.set_cons_zero, List.set_cons_succ]
            refine wpAnyH_take (i := 2) (oi := ⟨some 115, _, _, _, _, _⟩) (v := ?_) rfl (by kernel_rfl) (by kernel_rfl) (by kernel_rfl) (fun _ _ _ h => h) (Or.inl ⟨by rfl, ?_⟩) (by assumption) ?_
            rotate_left
            · intro w hSw; (try dsimp only at hSw); go_simp <;> with_reducible rfl
            try simp only [Act.put, List.setIfInBounds_toArray, List.set_cons_zero, List.set_cons_succ]
            refine wpAnyH_take (i := 3) (oi := ⟨some 116, _, _, _, _, _⟩) (v := ?_) rfl (by kernel_rfl) (by kernel_rfl) (by kernel_rfl) (fun _ _ _ h => h) (Or.inl ⟨by rfl, ?_⟩) (by assumption) ?_
            rotate_left
            · intro w hSw; (try dsimp only at hSw); go_simp <;> with_reducible rfl
            try simp only [Act.put, List.setIfInBounds_toArray, List.set_cons_zero, List.set_cons_succ]
            refine wpAnyH_take (i := 4) (oi := ⟨some 117, _, _, _, _, _⟩) (v := ?_) rfl (by kernel_rfl) (by kernel_rfl) (by kernel_rfl) (fun _ _ _ h => h) (Or.inl ⟨by rfl, ?_⟩) (by assumption) ?_
            rotate_left
            · intro w hSw; (try dsimp only at hSw); go_simp <;> with_reducible rfl
            try simp only [Act.put, List.setIfInBounds_toArray, List.set_cons_zero, List.set_cons_succ]
            refine wpAnyH_take (i := 5) (oi := ⟨some 118, _, _, _, _, _⟩) (v := ?_) rfl (by kernel_rfl) (by kernel_rfl) (by kernel_rfl) (fun _ _ _ h => h) (Or.inl ⟨by rfl, ?_⟩) (by assumption) ?_
            rotate_left
            · intro w hSw; (try dsimp only at hSw); go_simp <;> with_reducible rfl
            try simp only [Act.put, List.setIfInBounds_toArray, List.set_cons_zero, List.set_cons_succ]
            refine wpAnyH_take (i := 6) (oi := ⟨some 119, _, _, _, _, _⟩) (v := ?_) rfl (by kernel_rfl) (by kernel_rfl) (by kernel_rfl) (fun _ _ _ h => h) (Or.inl ⟨by rfl, ?_⟩) (by assumption) ?_
            rotate_left
            · intro w hSw; (try dsimp only at hSw); go_simp <;> with_reducible rfl
            try simp only [Act.put, List.setIfInBounds_toArray, List.set_cons_zero, List.set_cons_succ]
            refine wpAnyH_take (i := 7) (oi := ⟨some 120, _, _, _, _, _⟩) (v := ?_) rfl (by kernel_rfl) (by kernel_rfl) (by kernel_rfl) (fun _ _ _ h => h) (Or.inl ⟨by rfl, ?_⟩) (by assumption) ?_
            rotate_left
            · intro w hSw; (try dsimp only at hSw); go_simp <;> with_reducible rfl
            try simp only [Act.put, List.setIfInBounds_toArray, List.set_cons_zero, List.set_cons_succ]
            refine wpAnyH_take (i := 8) (oi := ⟨some 121, _, _, _, _, _⟩) (v := ?_) rfl (by kernel_rfl) (by kernel_rfl) (by kernel_rfl) (fun _ _ _ h => h) (Or.inl ⟨by rfl, ?_⟩) (by assumption) ?_
            rotate_left
            · intro w hSw; (try dsimp only at hSw); go_simp <;> with_reducible rfl
            try simp only [Act.put, List.setIfInBounds_toArray, List.set_cons_zero, List.set_cons_succ]
            refine wpAnyH_take (i := 9) (oi := ⟨some 122, _, _, _, _, _⟩) (v := ?_) rfl (by kernel_rfl) (by kernel_rfl) (by kernel_rfl) (fun _ _ _ h => h) (Or.inl ⟨by rfl, ?_⟩) (by assumption) ?_
            rotate_left
            · intro w hSw; (try dsimp only at hSw); go_simp <;> with_reducible rfl
            try simp only [Act.put, List.setIfInBounds_toArray, List.set_cons_zero, List.set_cons_succ]
            refine wpAnyH_take (i := 10) (oi := ⟨some 123, _, _, _, _, _⟩) (v := ?_) rfl (by kernel_rfl) (by kernel_rfl) (by kernel_rfl) (fun _ _ _ h => h) (Or.inl ⟨by rfl, ?_⟩) (by assumption) ?_
            rotate_left
            · intro w hSw; (try dsimp only at hSw); go_simp <;> with_reducible rfl
            try simp only [Act.put, List.setIfInBounds_toArray, List.set_cons_zero, List.set_cons_succ]
            refine wpAnyH_take (i := 11) (oi := ⟨some 124, _, _, _, _, _⟩) (v := ?_) rfl (by kernel_rfl) (by kernel_rfl) (by kernel_rfl) (fun _ _ _ h => h) (Or.inl ⟨by rfl, ?_⟩) (by assumption) ?_
            rotate_left
            · intro w hSw; (try dsimp only at hSw); go_simp <;> with_reducible rfl
            try simp only [Act.put, List.setIfInBounds_toArray, List.set_cons_zero, List.set_cons_succ]
            refine wpAnyH_take (i := 12) (oi := ⟨some 125, _, _, _, _, _⟩) (v := ?_) rfl (by kernel_rfl) (by kernel_rfl) (by kernel_rfl) (fun _ _ _ h => h) (Or.inl ⟨by rfl, ?_⟩) (by assumption) ?_
            rotate_left
            · intro w hSw; (try dsimp only at hSw); go_simp <;> with_reducible rfl
            try simp only [Act.put, List.setIfInBounds_toArray, List.set_cons_zero, List.set_cons_succ]
            refine wpAnyH_take (i := 13) (oi := ⟨some 126, _, _, _, _, _⟩) (v := ?_) rfl (by kernel_rfl) (by kernel_rfl) (by kernel_rfl) (fun _ _ _ h => h) (Or.inl ⟨by rfl, ?_⟩) (by assumption) ?_
            rotate_left
            · intro w hSw; (try dsimp only at hSw); go_simp <;> with_reducible rfl
            try simp only [Act.put, List.setIfInBounds_toArray, List.set_cons_zero, List.set_cons_succ]
            refine wpAnyH_take (i := 14) (oi := ⟨some 127, _, _, _, _, _⟩) (v := ?_) rfl (by kernel_rfl) (by kernel_rfl) (by kernel_rfl) (fun _ _ _ h => h) (Or.inl ⟨by rfl, ?_⟩) (by assumption) ?_
            rotate_left
            · intro w hSw; (try dsimp only at hSw); go_simp <;> with_reducible rfl
            try simp only [Act.put, List.setIfInBounds_toArray, List.set_cons_zero, List.set_cons_succ]
            refine wpAnyH_take (i := 15) (oi := ⟨some 128, _, _, _, _, _⟩) (v := ?_) rfl (by kernel_rfl) (by kernel_rfl) (by kernel_rfl) (fun _ _ _ h => h) (Or.inl ⟨by rfl, ?_⟩) (by assumption) ?_
            rotate_left
            · intro w hSw; (try dsimp only at hSw); go_simp <;> with_reducible rfl
            try simp only [Act.put, List.setIfInBounds_toArray, List.set_cons_zero, List.set_cons_succ]
            refine wpAnyH_ready (rs := [16]) (by kernel_rfl) (by simp) ?_
            refine AllReadyH.cons (o := ⟨some 129, _, _, _, _, _⟩) rfl (fun K hK => ?_) AllReadyH.nil
            go_simp
            refine hK.out _ _ ?_ (fun hHeld => ?_)
            · (try dsimp only); (first | assumption | exact ⟨u1, u4, hcx⟩ | exact sees3x (bgo (bnew (bnil _) _).drew b5) u1 u4 hcx | (refine sees3x ?_ u1 u4 hcx; (repeat (first | exact bnil _ | refine Below.drew ?_ | refine bnew ?_ _))))
            clear hK K
            try simp only [Act.put, List.setIfInBounds_toArray, List.set_cons_zero, List.set_cons_succ]
            refine wpAnyH_ready (rs := [17]) (by kernel_rfl) (by simp) ?_
            refine AllReadyH.cons (o := ⟨some 130, _, _, _, _, _⟩) rfl (fun K hK => ?_) AllReadyH.nil
            go_simp
            refine (same_ints At _ 1 ct 1 [x] _ (by decide) (HSS.out.below (bnew (bnil _) _).drew) (Sl.drew (Sl.fresh _ #[_] 3 1 1 rfl))).mono ?_; rintro e5 w5 ⟨rfl, b5⟩
            go_wp2_with fail
            refine hK.out _ _ ?_ (fun hHeld => ?_)
            · (try dsimp only); (first | assumption | exact ⟨u1, u4, hcx⟩ | exact sees3x (bgo (bnew (bnil _) _).drew b5) u1 u4 hcx | (refine sees3x ?_ u1 u4 hcx; (repeat (first | exact bnil _ | refine Below.drew ?_ | refine bnew ?_ _))))
            clear hK K
            try simp only [Act.put, List.setIfInBounds_toArray, List.set_cons_zero, List.set_cons_succ]
            refine wpAnyH_take (i := 18) (oi := ⟨some 131, _, _, _, _, _⟩) (v := ?_) rfl (by kernel_rfl) (by kernel_rfl) (by kernel_rfl) (fun _ _ _ h => h) (Or.inl ⟨by rfl, ?_⟩) (by assumption) ?_
            rotate_left
            · intro w hSw; (try dsimp only at hSw); go_simp <;> with_reducible rfl
            try simp only [Act.put, List.setIfInBounds_toArray, List.set_cons_zero, List.set_cons_succ]
            refine wpAnyH_take (i := 19) (oi := ⟨some 132, _, _, _, _, _⟩) (v := ?_) rfl (by kernel_rfl) (by kernel_rfl) (by kernel_rfl) (fun _ _ _ h => h) (Or.inl ⟨by rfl, ?_⟩) (by assumption) ?_
            rotate_left
            · intro w hSw; (try dsimp only at hSw); go_simp <;> with_reducible rfl
            try simp only [Act.put, List.setIfInBounds_toArray, List.set_cons_zero, List.set_cons_succ]
            refine wpAnyH_done (by kernel_rfl) ?_ _
            rotate_left
            all_goals
              have B5 := hid (bgo BR.out (bgo (bnew (bnil _) _).drew b5))
              go_wp2_with fail
              go_roundw
              case rel => exact ⟨k + 1, by omega, by go_num, B5⟩
              case measure => simp [intOf]; omega
          · obtain rfl : k = 20 := by omega
            have j1 : ¬ (((20 : Nat) : Int)) < 20 := by omega
            go_wp2_with fail
            go_ret
            exact ⟨rfl, bgo (bgo B9.out B3.out) BR.out⟩
end Go.Proofs.YtiinnkdhccgelaaDoor
