/-
  CountTells: its walk. Written by gen_tells.py.
-/
import Derived.Test.YtnoinojhocicjaaDoorTellMem
namespace Go.Proofs.YtnoinojhocicjaaDoor
open Go.RowKit
set_option linter.unusedVariables false

theorem sees3x {W w' : World} {p q r : Addr} {u v x : Value} (h : Below W.heap.size W w') (hp : W.cell? p = some u) (hq : W.cell? q = some v) (hr : W.cell? r = some x) : w'.cell? p = some u ∧ w'.cell? q = some v ∧ w'.cell? r = some x := ⟨cell_below h hp, cell_below h hq, cell_below h hr⟩
set_option maxHeartbeats 4000000 in
set_option maxRecDepth 100000 in
theorem law_countTells (D : Option Addr) (r s : Nat) (cs : List Int) (w : World)
    (hr : r ≤ s) (hs : s ≤ maxLen) (_ : s * 8 ≤ 140737488351232) (hD : Sl w 1 D r (ints cs)) (hcs : ∀ x ∈ cs, -9223372036854775808 ≤ x ∧ x ≤ 9223372036854775807) (hT : STab w) :
    Calls Tryd.prog 9 #[.slice D r s] w fun e w' => e = .returned (.bool true) ∧ Below w.heap.size w w' := by
  have HDD := hid hD; have HCS := hid hcs; have HT := hid hT; have HRL := hid hD.leni
  clear hD hcs hT
  have hrl : r ≤ 9223372036854775807 := by unfold maxLen at hs; omega
  clear hs
  go_enter Tryd.func9, Tryd.ntmps9
  go_wp2_with fail
  refine (count_machine none 0 0 [] w (by decide) (Sl.nil none) (fun x hx => by cases hx)).mono ?_
  rintro e w1 hp1
  obtain ⟨AW, cW, Cb, T0, cv, tv0, av0, rfl, hW, hM, b1⟩ := hp1
  have HM := hid hM; have B1 := hid b1; have HW := hid hW
  clear hM b1 hW
  obtain ⟨X, hX⟩ : ∃ X, w1.heap.size = X := ⟨_, rfl⟩
  obtain ⟨T, hTX⟩ : ∃ T, X + 1 = T := ⟨_, rfl⟩
  have HTX := hid hTX
  have HX0 := hid hX
  clear hX hTX
  go_wp2_with fail
  have hX := HX0.out
  rw [hX]
  have hTX := HTX.out
  try rw [hTX]
  have BB := hid (bnew (bnew (bnil w1) (.cells #[.slice AW 1 cW, .slice (some ⟨Cb, 0, none⟩) 2 2, .slice (some ⟨T, 0, none⟩) 1 1] 27)) (.cells #[.slice none 0 0] 44))
  have HXB := hid ((blkN w1 27 #[.slice AW 1 cW, .slice (some ⟨Cb, 0, none⟩) 2 2, .slice (some ⟨T, 0, none⟩) 1 1] X hX).alloc (.cells #[.slice none 0 0] 44))
  have HTB := hid (blkN (w1.alloc (.cells #[.slice AW 1 cW, .slice (some ⟨Cb, 0, none⟩) 2 2, .slice (some ⟨T, 0, none⟩) 1 1] 27)) 44 #[.slice none 0 0] T (by simp [hX, hTX]))
  generalize World.alloc (World.alloc w1 (.cells #[.slice AW 1 cW, .slice (some ⟨Cb, 0, none⟩) 2 2, .slice (some ⟨T, 0, none⟩) 1 1] 27)) (.cells #[.slice none 0 0] 44) = w2 at *
  clear hX hTX
  have hBT : w.heap.size ≤ T := by have h1 := HX0.out; have h2 := HTX.out; have h3 := B1.out.size; omega
  have hMT : MN w.heap.size w2 2 1 Cb T cv (fun i => [addCode, getCode].getD i []) (fun _ => .slice none 0 0) (fun _ => []) (fun _ => []) :=
    MN.start (v := fun _ => undef) (HM.out.below BB.out).geC hBT (HM.out.below BB.out).cb HTB.out (HM.out.below BB.out).os
  rw [show (fun _ => [] : Nat → List VCall) = tellThs cs 0 from by funext j; simp [tellThs, tcalls]] at hMT
  have TW0 := hid (show TW w w2 X Cb T AW cW cv (fun _ => .slice none 0 0) (fun _ => []) cs 0 (.slice none 0 0) [] from
    ⟨HXB.out, own_below HW.out BB.out, hMT, own0 _ _ _ 1, (fun b hb hb' => by cases hb'), (fun a ha => by cases ha), bgo B1.out BB.out⟩)
  clear hMT
  clear HXB HTB BB HM HW B1
  go_loopw [4, 5, 6] (fun sv wv i wx => ∃ (k L2 : Nat) (S0 : Int) (Aw : Option Addr) (cw : Nat) (tv : Nat → Value) (av : Nat → List SV), k ≤ 9 ∧ i = .int .i64 k ∧ sv = .int .i64 S0 ∧ wv = .slice Aw L2 cw ∧ L2 ≤ 18 ∧ Hid (S0 = tsum cs k) ∧ Hid ((twant cs k).length = L2) ∧ Hid (TW w wx X Cb T AW cW cv tv av cs k (.slice Aw L2 cw) (twant cs k))) (fun _ _ i _ => 9 - (intOf i).toNat)
  case atStart => exact ⟨0, 0, 0, none, 0, _, _, Nat.zero_le _, rfl, rfl, rfl, Nat.zero_le _, rfl, rfl, TW0⟩
  case round =>
    clear TW0
    obtain ⟨k, L2, S0, Aw, cw, tv, av, hk9, rfl, rfl, rfl, hL18, HS0, HL2, H⟩ := hrel
    by_cases h1 : k < 9
    · have i1 : (k : Int) < 9 := by omega
      obtain ⟨n, hn⟩ : ∃ n, tval cs k = n := ⟨_, rfl⟩
      have HNV := hid hn
      have hcase : (k < r ∧ ∃ ad, D = some ad ∧ wr.cell? (ad.add k) = some (.int .i64 n)) ∨ (¬ k < r ∧ n = 1) := by
        by_cases h2 : k < r
        · obtain ⟨ad, x, e, hx, cx⟩ := HDD.out.ati h2
          refine .inl ⟨h2, ad, e, cell_below H.out.below ?_⟩
          rw [← HNV.out]; unfold tval; rw [hx]; exact cx
        · refine .inr ⟨h2, ?_⟩
          rw [← HNV.out]; unfold tval
          rw [List.getElem?_eq_none (by rw [HRL.out]; omega)]
      obtain ⟨S1, hS1⟩ : ∃ S1, wrap64 (S0 + n) = S1 := ⟨_, rfl⟩
      have HS1 := hid hS1
      clear hn
      have c2 : wr.cell? ⟨X, 2, none⟩ = some (.slice (some ⟨T, 0, none⟩) 1 1) := H.out.hx.cell 2
      have c3 : wr.cell? ⟨T, 0, none⟩ = some (tv 0) := by rw [H.out.mn.tb.cell 0]; exact arrN_at tv (by decide)
      have f3 : wr.frozen? ⟨T, 0, none⟩ = false := H.out.mn.tb.frozen 0
      have hrow := H.out.mn.rows 0 (by decide)
      obtain ⟨L, hL⟩ : ∃ L, (tellThs cs k 0).length = L := ⟨_, rfl⟩
      have hL18' : L ≤ 16 := by rw [← hL]; show (tcalls cs k).length ≤ 16; rw [tcalls_len]; omega
      obtain ⟨Aj, cj, hAj, hcj1, hcj2⟩ := own_form hrow.2.1
      rw [hL] at hAj hcj1
      rw [hAj] at c3
      have HAJ := hid hAj
      have HROW := hid hrow
      have HLL := hid hL
      clear hAj hrow hL
      have ltT := World.block_lt_of_cell? wr _ c3
      have ltX := World.block_lt_of_cell? wr _ c2
      obtain ⟨y, hy⟩ : ∃ y, (tellThs cs k 0).zip (av 0) ++ [((⟨0, [n]⟩ : VCall), (⟨some ⟨wr.heap.size, 0, none⟩, 1, 1⟩ : SV)), ((⟨1, []⟩ : VCall), (⟨none, 0, 0⟩ : SV))] = y := ⟨_, rfl⟩
      have HYE := hid hy
      have HYL := hid (show y.length = L + 2 by rw [← hy, List.length_append, List.length_zip, HROW.out.1, HLL.out]; simp)
      clear hy
      have HBS := hid H.out.below.size
      have HOW := hid (show ∀ w', Below wr.heap.size wr w' → w'.ownsRow w.heap.size 46 2 (.slice Aj L cj) ((tellThs cs k 0).zip (av 0)).length (((tellThs cs k 0).zip (av 0)).flatMap gS) from fun w' hb => by
        have h1 := own_below HROW.out.2.1 hb
        rw [HAJ.out] at h1
        rw [List.length_zip, HROW.out.1, Nat.min_self]
        exact h1)
      have HGW := hid (show ∀ wA w6, Below wr.heap.size wr wA → wA.grownBy w6 (Value.slice Aj L cj).ownBlock → (w6.cell? ⟨X, 2, none⟩ = some (.slice (some ⟨T, 0, none⟩) 1 1) ∧ w6.frozen? ⟨T, 0, none⟩ = false) ∧ w6.cell? ⟨T, 0, none⟩ = some (.slice Aj L cj) ∧
        ∀ v, ((w6.setCell ⟨T, 0, none⟩ v).cell? ⟨X, 2, none⟩ = some (.slice (some ⟨T, 0, none⟩) 1 1) ∧ (w6.setCell ⟨T, 0, none⟩ v).frozen? ⟨T, 0, none⟩ = false) from fun wA w6 hb hG => by
        rw [← HAJ.out] at hG
        obtain ⟨g1, g2⟩ := H.out.mn.grown (by decide : 0 < 1) hb hG
        have gX := g2 (by decide) H.out.hx
        exact ⟨⟨gX.cell 2, g1.frozen 0⟩, by rw [g1.cell 0, arrN_at tv (by decide), HAJ.out], fun v => ⟨(gX.far (p := ⟨T, 0, none⟩) (gX.ne_ g1 (by decide)) v).cell 2, (g1.set_ 0 v).frozen 0⟩⟩)
      have HFR := hid (show ((wr.alloc (.cells #[.int .i64 n] 3)).alloc (.cells #[.int .i64 0, .slice (some ⟨wr.heap.size, 0, none⟩) 1 1, .int .i64 1, .slice none 0 0] 46)).drew.ownsRow w.heap.size 3 1 (.slice (some ⟨wr.heap.size, 0, none⟩) 1 1) 1 ([n].flatMap gI) from
        own_below (own_fresh wr #[.int .i64 n] 3 1 1 _ _ rfl HBS.out rfl (by simp [maxLen])) (bnew (bnil _) _).drew)
      rcases hcase with ⟨h2, ad, rfl, cx⟩ | ⟨h2, rfl⟩
      all_goals
        first
          | (have i2 : (k : Int) < (r : Int) := by omega
             go_upto_region 11 with fail
             clear cx)
          | (have i2 : ¬ (k : Int) < (r : Int) := by omega
             go_upto_region 11 with fail)
        refine wp_region_held_drew (S := (fun w' => w'.cell? ⟨X, 2, none⟩ = some (.slice (some ⟨T, 0, none⟩) 1 1) ∧ w'.frozen? ⟨T, 0, none⟩ = false)) (by kernel_rfl) ?_ (fun hHeld => ?_)
        · (try dsimp only); (first | assumption | exact ⟨c2, f3⟩ | exact HZ.1 | exact HZ.2.2 _ | (refine sees2f ?_ c2 c3 f3; (repeat (first | exact bnil _ | refine Below.drew ?_ | refine bnew ?_ _))))
        refine wpAnyH_take (i := 0) (oi := ⟨some 26, _, _, _, _, _⟩) (v := ?_) rfl (by kernel_rfl) (by kernel_rfl) (by kernel_rfl) (fun _ _ _ h => h) (Or.inl ⟨by rfl, ?_⟩) (by assumption) ?_
        rotate_left
        · intro w hSw; (try dsimp only at hSw); go_simp <;> with_reducible rfl
        try simp only [Act.put, List.setIfInBounds_toArray, List.set_cons_zero, List.set_cons_succ]
        refine wpAnyH_take (i := 1) (oi := ⟨some 27, _, _, _, _, _⟩) (v := ?_) rfl (by kernel_rfl) (by kernel_rfl) (by kernel_rfl) (fun _ _ _ h => h) (Or.inl ⟨by rfl, ?_⟩) (by assumption) ?_
        rotate_left
        · intro w hSw; (try dsimp only at hSw); go_simp <;> with_reducible rfl
        try simp only [Act.put, List.setIfInBounds_toArray, List.set_cons_zero, List.set_cons_succ]
        refine wpAnyH_take (i := 2) (oi := ⟨some 28, _, _, _, _, _⟩) (v := ?_) rfl (by kernel_rfl) (by kernel_rfl) (by kernel_rfl) (fun _ _ _ h => h) (Or.inl ⟨by rfl, ?_⟩) (by assumption) ?_
        rotate_left
        · intro w hSw; (try dsimp only at hSw); go_simp <;> with_reducible rfl
        try simp only [Act.put, List.setIfInBounds_toArray, List.set_cons_zero, List.set_cons_succ]
        refine wpAnyH_take (i := 3) (oi := ⟨some 29, _, _, _, _, _⟩) (v := ?_) rfl (by kernel_rfl) (by kernel_rfl) (by kernel_rfl) (fun _ _ _ h => h) (Or.inl ⟨by rfl, ?_⟩) (by assumption) ?_
        rotate_left
        · intro w hSw; (try dsimp only at hSw); go_simp <;> with_reducible rfl
        try simp only [Act.put, List.setIfInBounds_toArray, List.set_cons_zero, List.set_cons_succ]
        refine wpAnyH_take (i := 4) (oi := ⟨some 30, _, _, _, _, _⟩) (v := ?_) rfl (by kernel_rfl) (by kernel_rfl) (by kernel_rfl) (fun _ _ _ h => h) (Or.inl ⟨by rfl, ?_⟩) (by assumption) ?_
        rotate_left
        · intro w hSw; (try dsimp only at hSw); go_simp <;> with_reducible rfl
        try simp only [Act.put, List.setIfInBounds_toArray, List.set_cons_zero, List.set_cons_succ]
        refine wpAnyH_take (i := 6) (oi := ⟨some 32, _, _, _, _, _⟩) (v := ?_) rfl (by kernel_rfl) (by kernel_rfl) (by kernel_rfl) (fun _ _ _ h => h) (Or.inl ⟨by rfl, ?_⟩) (by assumption) ?_
        rotate_left
        · intro w hSw; (try dsimp only at hSw); go_simp <;> with_reducible rfl
        try simp only [Act.put, List.setIfInBounds_toArray, List.set_cons_zero, List.set_cons_succ]
        refine wpAnyH_take (i := 9) (oi := ⟨some 35, _, _, _, _, _⟩) (v := ?_) rfl (by kernel_rfl) (by kernel_rfl) (by kernel_rfl) (fun _ _ _ h => h) (Or.inl ⟨by rfl, ?_⟩) (by assumption) ?_
        rotate_left
        · intro w hSw; (try dsimp only at hSw); go_simp <;> with_reducible rfl
        try simp only [Act.put, List.setIfInBounds_toArray, List.set_cons_zero, List.set_cons_succ]
        refine wpAnyH_ready (rs := [5, 7]) (by kernel_rfl) (by simp) ?_
        refine AllReadyH.cons (o := ⟨some 31, _, _, _, _, _⟩) rfl (fun K hK => ?_) ?_
        go_simp
        refine hK.out _ _ ?_ (fun hHeld => ?_)
        · (try dsimp only); (first | assumption | exact ⟨c2, f3⟩ | exact HZ.1 | exact HZ.2.2 _ | (refine sees2f ?_ c2 c3 f3; (repeat (first | exact bnil _ | refine Below.drew ?_ | refine bnew ?_ _))))
        clear hK K
        try simp only [Act.put, List.setIfInBounds_toArray, List.set_cons_zero, List.set_cons_succ]
        refine wpAnyH_ready (rs := [7]) (by kernel_rfl) (by simp) ?_
        refine AllReadyH.cons (o := ⟨some 33, _, _, _, _, _⟩) rfl (fun K hK => ?_) AllReadyH.nil
        go_simp
        refine hK.out _ _ ?_ (fun hHeld => ?_)
        · (try dsimp only); (first | assumption | exact ⟨c2, f3⟩ | exact HZ.1 | exact HZ.2.2 _ | (refine sees2f ?_ c2 c3 f3; (repeat (first | exact bnil _ | refine Below.drew ?_ | refine bnew ?_ _))))
        clear hK K
        try simp only [Act.put, List.setIfInBounds_toArray, List.set_cons_zero, List.set_cons_succ]
        refine wpAnyH_take (i := 8) (oi := ⟨some 34, _, _, _, _, _⟩) (v := ?_) rfl (by kernel_rfl) (by kernel_rfl) (by kernel_rfl) (fun _ _ _ h => h) (Or.inl ⟨by rfl, ?_⟩) (by assumption) ?_
        rotate_left
        · intro w hSw; (try dsimp only at hSw); go_simp <;> with_reducible rfl
        try simp only [Act.put, List.setIfInBounds_toArray, List.set_cons_zero, List.set_cons_succ]
        refine wpAnyH_ready (rs := [10]) (by kernel_rfl) (by simp) ?_
        refine AllReadyH.cons (o := ⟨some 36, _, _, _, _, _⟩) rfl (fun K hK => ?_) AllReadyH.nil
        go_simp
        refine hK.out _ _ ?_ (fun hHeld => ?_)
        · (try dsimp only); (first | assumption | exact ⟨c2, f3⟩ | exact HZ.1 | exact HZ.2.2 _ | (refine sees2f ?_ c2 c3 f3; (repeat (first | exact bnil _ | refine Below.drew ?_ | refine bnew ?_ _))))
        clear hK K
        try simp only [Act.put, List.setIfInBounds_toArray, List.set_cons_zero, List.set_cons_succ]
        refine wpAnyH_ready (rs := [11]) (by kernel_rfl) (by simp) ?_
        refine AllReadyH.cons (o := ⟨some 37, _, _, _, _, _⟩) rfl (fun K hK => ?_) AllReadyH.nil
        (refine step_appC elmCN gS_one rfl (.tmp 31) (.tmp 36) rfl (.slice Aj L cj) ((tellThs cs k 0).zip (av 0)) rfl (HOW.out _ (bnew (bnew (bnil _) _) _).drew) [((⟨0, [_]⟩ : VCall), (⟨some ⟨wr.heap.size, 0, none⟩, 1, 1⟩ : SV)), ((⟨1, []⟩ : VCall), (⟨none, 0, 0⟩ : SV))] y HYE rfl (Sl.drew (Sl.fresh' _ #[_, _, _, _] 46 2 2 _ (by simp) rfl)) rfl (by rw [HYL.out]; simp only [maxLen]; omega) (by rw [HYL.out]; omega) (Nat.le_trans HBS.out (bnew (bnew (bnil _) _) _).drew.size) ?_; intro E6 c6 w6 hc6 hc7 HN6 HG6 HO6; have HZ := HGW.out _ w6 (bnew (bnew (bnil _) _) _).drew HG6.out)
        refine hK.out _ _ ?_ (fun hHeld => ?_)
        · (try dsimp only); (first | assumption | exact ⟨c2, f3⟩ | exact HZ.1 | exact HZ.2.2 _ | (refine sees2f ?_ c2 c3 f3; (repeat (first | exact bnil _ | refine Below.drew ?_ | refine bnew ?_ _))))
        clear hK K
        try simp only [Act.put, List.setIfInBounds_toArray, List.set_cons_zero, List.set_cons_succ]
        refine wpAnyH_take (i := 12) (oi := ⟨some 38, _, _, _, _, _⟩) (v := ?_) rfl (by kernel_rfl) (by kernel_rfl) (by kernel_rfl) (fun _ _ _ h => h) (Or.inl ⟨by rfl, ?_⟩) (by assumption) ?_
        rotate_left
        · intro w hSw; (try dsimp only at hSw); go_simp <;> with_reducible rfl
        try simp only [Act.put, List.setIfInBounds_toArray, List.set_cons_zero, List.set_cons_succ]
        refine wpAnyH_ready (rs := [13]) (by kernel_rfl) (by simp) ?_
        refine AllReadyH.cons (o := ⟨none, _, _, _, _, _⟩) rfl (fun K hK => ?_) AllReadyH.nil
        go_simp
        refine hK.out _ _ ?_ (fun hHeld => ?_)
        · (try dsimp only); (first | assumption | exact ⟨c2, f3⟩ | exact HZ.1 | exact HZ.2.2 _ | (refine sees2f ?_ c2 c3 f3; (repeat (first | exact bnil _ | refine Below.drew ?_ | refine bnew ?_ _))))
        clear hK K
        try dsimp only [Act.put]
        refine wpAnyH_done (by kernel_rfl) ?_ _
        rotate_left
        refine AllReadyH.cons (o := ⟨some 33, _, _, _, _, _⟩) rfl (fun K hK => ?_) AllReadyH.nil
        go_simp
        refine hK.out _ _ ?_ (fun hHeld => ?_)
        · (try dsimp only); (first | assumption | exact ⟨c2, f3⟩ | exact HZ.1 | exact HZ.2.2 _ | (refine sees2f ?_ c2 c3 f3; (repeat (first | exact bnil _ | refine Below.drew ?_ | refine bnew ?_ _))))
        clear hK K
        try simp only [Act.put, List.setIfInBounds_toArray, List.set_cons_zero, List.set_cons_succ]
        refine wpAnyH_take (i := 8) (oi := ⟨some 34, _, _, _, _, _⟩) (v := ?_) rfl (by kernel_rfl) (by kernel_rfl) (by kernel_rfl) (fun _ _ _ h => h) (Or.inl ⟨by rfl, ?_⟩) (by assumption) ?_
        rotate_left
        · intro w hSw; (try dsimp only at hSw); go_simp <;> with_reducible rfl
        try simp only [Act.put, List.setIfInBounds_toArray, List.set_cons_zero, List.set_cons_succ]
        refine wpAnyH_ready (rs := [5, 10]) (by kernel_rfl) (by simp) ?_
        refine AllReadyH.cons (o := ⟨some 31, _, _, _, _, _⟩) rfl (fun K hK => ?_) ?_
        go_simp
        refine hK.out _ _ ?_ (fun hHeld => ?_)
        · (try dsimp only); (first | assumption | exact ⟨c2, f3⟩ | exact HZ.1 | exact HZ.2.2 _ | (refine sees2f ?_ c2 c3 f3; (repeat (first | exact bnil _ | refine Below.drew ?_ | refine bnew ?_ _))))
        clear hK K
        try simp only [Act.put, List.setIfInBounds_toArray, List.set_cons_zero, List.set_cons_succ]
        refine wpAnyH_ready (rs := [10]) (by kernel_rfl) (by simp) ?_
        refine AllReadyH.cons (o := ⟨some 36, _, _, _, _, _⟩) rfl (fun K hK => ?_) AllReadyH.nil
        go_simp
        refine hK.out _ _ ?_ (fun hHeld => ?_)
        · (try dsimp only); (first | assumption | exact ⟨c2, f3⟩ | exact HZ.1 | exact HZ.2.2 _ | (refine sees2f ?_ c2 c3 f3; (repeat (first | exact bnil _ | refine Below.drew ?_ | refine bnew ?_ _))))
        clear hK K
        try simp only [Act.put, List.setIfInBounds_toArray, List.set_cons_zero, List.set_cons_succ]
        refine wpAnyH_ready (rs := [11]) (by kernel_rfl) (by simp) ?_
        refine AllReadyH.cons (o := ⟨some 37, _, _, _, _, _⟩) rfl (fun K hK => ?_) AllReadyH.nil
        (refine step_appC elmCN gS_one rfl (.tmp 31) (.tmp 36) rfl (.slice Aj L cj) ((tellThs cs k 0).zip (av 0)) rfl (HOW.out _ (bnew (bnew (bnil _) _) _).drew) [((⟨0, [_]⟩ : VCall), (⟨some ⟨wr.heap.size, 0, none⟩, 1, 1⟩ : SV)), ((⟨1, []⟩ : VCall), (⟨none, 0, 0⟩ : SV))] y HYE rfl (Sl.drew (Sl.fresh' _ #[_, _, _, _] 46 2 2 _ (by simp) rfl)) rfl (by rw [HYL.out]; simp only [maxLen]; omega) (by rw [HYL.out]; omega) (Nat.le_trans HBS.out (bnew (bnew (bnil _) _) _).drew.size) ?_; intro E6 c6 w6 hc6 hc7 HN6 HG6 HO6; have HZ := HGW.out _ w6 (bnew (bnew (bnil _) _) _).drew HG6.out)
        refine hK.out _ _ ?_ (fun hHeld => ?_)
        · (try dsimp only); (first | assumption | exact ⟨c2, f3⟩ | exact HZ.1 | exact HZ.2.2 _ | (refine sees2f ?_ c2 c3 f3; (repeat (first | exact bnil _ | refine Below.drew ?_ | refine bnew ?_ _))))
        clear hK K
        try simp only [Act.put, List.setIfInBounds_toArray, List.set_cons_zero, List.set_cons_succ]
        refine wpAnyH_take (i := 12) (oi := ⟨some 38, _, _, _, _, _⟩) (v := ?_) rfl (by kernel_rfl) (by kernel_rfl) (by kernel_rfl) (fun _ _ _ h => h) (Or.inl ⟨by rfl, ?_⟩) (by assumption) ?_
        rotate_left
        · intro w hSw; (try dsimp only at hSw); go_simp <;> with_reducible rfl
        try simp only [Act.put, List.setIfInBounds_toArray, List.set_cons_zero, List.set_cons_succ]
        refine wpAnyH_ready (rs := [13]) (by kernel_rfl) (by simp) ?_
        refine AllReadyH.cons (o := ⟨none, _, _, _, _, _⟩) rfl (fun K hK => ?_) AllReadyH.nil
        go_simp
        refine hK.out _ _ ?_ (fun hHeld => ?_)
        · (try dsimp only); (first | assumption | exact ⟨c2, f3⟩ | exact HZ.1 | exact HZ.2.2 _ | (refine sees2f ?_ c2 c3 f3; (repeat (first | exact bnil _ | refine Below.drew ?_ | refine bnew ?_ _))))
        clear hK K
        try dsimp only [Act.put]
        refine wpAnyH_done (by kernel_rfl) ?_ _
        rotate_left
        refine AllReadyH.cons (o := ⟨some 36, _, _, _, _, _⟩) rfl (fun K hK => ?_) AllReadyH.nil
        go_simp
        refine hK.out _ _ ?_ (fun hHeld => ?_)
        · (try dsimp only); (first | assumption | exact ⟨c2, f3⟩ | exact HZ.1 | exact HZ.2.2 _ | (refine sees2f ?_ c2 c3 f3; (repeat (first | exact bnil _ | refine Below.drew ?_ | refine bnew ?_ _))))
        clear hK K
        try simp only [Act.put, List.setIfInBounds_toArray, List.set_cons_zero, List.set_cons_succ]
        refine wpAnyH_ready (rs := [5]) (by kernel_rfl) (by simp) ?_
        refine AllReadyH.cons (o := ⟨some 31, _, _, _, _, _⟩) rfl (fun K hK => ?_) AllReadyH.nil
        go_simp
        refine hK.out _ _ ?_ (fun hHeld => ?_)
        · (try dsimp only); (first | assumption | exact ⟨c2, f3⟩ | exact HZ.1 | exact HZ.2.2 _ | (refine sees2f ?_ c2 c3 f3; (repeat (first | exact bnil _ | refine Below.drew ?_ | refine bnew ?_ _))))
        clear hK K
        try simp only [Act.put, List.setIfInBounds_toArray, List.set_cons_zero, List.set_cons_succ]
        refine wpAnyH_ready (rs := [11]) (by kernel_rfl) (by simp) ?_
        refine AllReadyH.cons (o := ⟨some 37, _, _, _, _, _⟩) rfl (fun K hK => ?_) AllReadyH.nil
        (refine step_appC elmCN gS_one rfl (.tmp 31) (.tmp 36) rfl (.slice Aj L cj) ((tellThs cs k 0).zip (av 0)) rfl (HOW.out _ (bnew (bnew (bnil _) _) _).drew) [((⟨0, [_]⟩ : VCall), (⟨some ⟨wr.heap.size, 0, none⟩, 1, 1⟩ : SV)), ((⟨1, []⟩ : VCall), (⟨none, 0, 0⟩ : SV))] y HYE rfl (Sl.drew (Sl.fresh' _ #[_, _, _, _] 46 2 2 _ (by simp) rfl)) rfl (by rw [HYL.out]; simp only [maxLen]; omega) (by rw [HYL.out]; omega) (Nat.le_trans HBS.out (bnew (bnew (bnil _) _) _).drew.size) ?_; intro E6 c6 w6 hc6 hc7 HN6 HG6 HO6; have HZ := HGW.out _ w6 (bnew (bnew (bnil _) _) _).drew HG6.out)
        refine hK.out _ _ ?_ (fun hHeld => ?_)
        · (try dsimp only); (first | assumption | exact ⟨c2, f3⟩ | exact HZ.1 | exact HZ.2.2 _ | (refine sees2f ?_ c2 c3 f3; (repeat (first | exact bnil _ | refine Below.drew ?_ | refine bnew ?_ _))))
        clear hK K
        try simp only [Act.put, List.setIfInBounds_toArray, List.set_cons_zero, List.set_cons_succ]
        refine wpAnyH_take (i := 12) (oi := ⟨some 38, _, _, _, _, _⟩) (v := ?_) rfl (by kernel_rfl) (by kernel_rfl) (by kernel_rfl) (fun _ _ _ h => h) (Or.inl ⟨by rfl, ?_⟩) (by assumption) ?_
        rotate_left
        · intro w hSw; (try dsimp only at hSw); go_simp <;> with_reducible rfl
        try simp only [Act.put, List.setIfInBounds_toArray, List.set_cons_zero, List.set_cons_succ]
        refine wpAnyH_ready (rs := [13]) (by kernel_rfl) (by simp) ?_
        refine AllReadyH.cons (o := ⟨none, _, _, _, _, _⟩) rfl (fun K hK => ?_) AllReadyH.nil
        go_simp
        refine hK.out _ _ ?_ (fun hHeld => ?_)
        · (try dsimp only); (first | assumption | exact ⟨c2, f3⟩ | exact HZ.1 | exact HZ.2.2 _ | (refine sees2f ?_ c2 c3 f3; (repeat (first | exact bnil _ | refine Below.drew ?_ | refine bnew ?_ _))))
        clear hK K
        try dsimp only [Act.put]
        refine wpAnyH_done (by kernel_rfl) ?_ _
        rotate_left
        all_goals
          have H6 := hid (H.out.push (wA := ((wr.alloc (.cells #[.int .i64 _] 3)).alloc (.cells #[.int .i64 0, .slice (some ⟨wr.heap.size, 0, none⟩) 1 1, .int .i64 1, .slice none 0 0] 46)).drew) (bnew (bnew (bnil _) _) _).drew (Nat.le_refl _) (by rw [HNV.out]; exact HFR.out) (by rw [HNV.out]; exact HYE.out) (by rw [HAJ.out]; exact HG6.out) (by rw [HAJ.out]; exact HO6.out) HN6.out)
          clear HZ HG6 HO6 HN6
          generalize World.setCell w6 _ _ = w7 at *
          obtain ⟨y1, hy1⟩ : ∃ y1, twant cs k ++ [S0] = y1 := ⟨_, rfl⟩
          obtain ⟨y2, hy2⟩ : ∃ y2, y1 ++ [S1] = y2 := ⟨_, rfl⟩
          have HY1 := hid hy1; have HY2 := hid hy2
          have HYN1 := hid (show y1.length = L2 + 1 by rw [← hy1, List.length_append, HL2.out]; rfl)
          have HYN2 := hid (show y2.length = L2 + 2 by rw [← hy2, List.length_append, HYN1.out]; rfl)
          clear hy1 hy2
          have HB7 := hid H6.out.below.size
          have HOWN := hid (show ∀ w', Below w7.heap.size w7 w' → w'.ownsRow w.heap.size 3 1 (.slice Aw L2 cw) (twant cs k).length ((twant cs k).flatMap gI) from fun w' hb => own_below H6.out.want hb)
          go_wp2_with (first
            | (at_builtin; refine wpList_appC elmI gI_one rfl (.tmp 39) (.tmp 41) rfl (.slice Aw L2 cw) (twant cs k) rfl (HOWN.out _ (bnew (bnil w7) _)) [S0] y1 HY1 rfl (Sl.fresh w7 #[_] 3 1 1 rfl) rfl (by rw [HYN1.out]; simp only [maxLen]; omega) (by rw [HYN1.out]; omega) (Nat.le_trans HB7.out (bnew (bnil w7) _).size) ?_; intro A8 c8 w8 hc8 hc8' HN8 HG8 HO8; have H8 := hid (H6.out.app (bnew (bnil w7) _) HG8.out HN8.out HO8.out); have HB8 := hid H8.out.below.size; clear HG8 HO8)
            | (at_builtin; refine wpList_appC elmI gI_one rfl (.tmp 46) (.tmp 48) rfl (.slice A8 y1.length c8) y1 rfl (own_below H8.out.want (bnew (bnil w8) _)) [S1] y2 HY2 rfl (Sl.fresh w8 #[_] 3 1 1 rfl) rfl (by rw [HYN2.out]; simp only [maxLen]; omega) (by rw [HYN2.out]; omega) (Nat.le_trans HB8.out (bnew (bnil w8) _).size) ?_; intro A9 c9 w9 hc9 hc9' HN9 HG9 HO9; have H9 := hid (H8.out.app (bnew (bnil w8) _) HG9.out HN9.out HO9.out); clear HG9 HO9))
          have E1 := hid (show S1 = tsum cs (k + 1) by rw [← HS1.out, HS0.out, ← HNV.out]; rfl)
          have E2 := hid (show twant cs (k + 1) = y2 by rw [← HY2.out, ← HY1.out, E1.out, HS0.out]; show _ ++ [_, _] = _; simp)
          have hy2 : y2.length ≤ 18 := by rw [← E2.out, twant_len]; omega
          go_roundw
          case rel => exact ⟨k + 1, y2.length, S1, A9, c9, _, _, by omega, by go_num, rfl, rfl, hy2, E1, hid (by rw [E2.out]), hid (by rw [E2.out]; exact H9.out)⟩
          case measure => simp [intOf]; omega
    · obtain rfl : k = 9 := by omega
      have i1 : ¬ (((9 : Nat) : Int)) < 9 := by omega
      obtain rfl : L2 = 18 := by rw [← HL2.out, twant_len]
      have HX9 := hid H.out.hx
      have HMM := hid (tell_mach H.out.mn)
      have HWW := hid H.out.hw
      have HWN := hid H.out.want
      have HTT := hid (HT.out.below H.out.below)
      have B9 := hid H.out.below
      have x0 : wr.cell? ⟨X, 0, none⟩ = some (.slice AW 1 cW) := HX9.out.cell 0
      have x1 : wr.cell? ⟨X, 1, none⟩ = some (.slice (some ⟨Cb, 0, none⟩) 2 2) := HX9.out.cell 1
      have x2 : wr.cell? ⟨X, 2, none⟩ = some (.slice (some ⟨T, 0, none⟩) 1 1) := HX9.out.cell 2
      have hmk := mk1080
      have HZZ := hid (zerosT 1080 wr wr.heap.size rfl)
      go_upto_region 15 with fail
      refine wp_region_held_drew (S := (fun w' => w'.cell? ⟨X, 0, none⟩ = some (.slice AW 1 cW) ∧ w'.cell? ⟨X, 1, none⟩ = some (.slice (some ⟨Cb, 0, none⟩) 2 2) ∧ w'.cell? ⟨X, 2, none⟩ = some (.slice (some ⟨T, 0, none⟩) 1 1))) (by kernel_rfl) ?_ (fun hHeld => ?_)
      · (try dsimp only); (first | assumption | exact ⟨x0, x1, x2⟩ | exact sees3x (bgo (bnew (bnil _) _).drew b3) x0 x1 x2 | (refine sees3x ?_ x0 x1 x2; (repeat (first | exact bnil _ | refine Below.drew ?_ | refine bnew ?_ _))))
      refine wpAnyH_take (i := 0) (oi := ⟨some 51, _, _, _, _, _⟩) (v := ?_) rfl (by kernel_rfl) (by kernel_rfl) (by kernel_rfl) (fun _ _ _ h => h) (Or.inl ⟨by rfl, ?_⟩) (by assumption) ?_
      rotate_left
      · intro w hSw; (try dsimp only at hSw); go_simp <;> with_reducible rfl
      try simp only [Act.put, List.setIfInBounds_toArray, List.set_cons_zero, List.set_cons_succ]
      refine wpAnyH_ready (rs := [1]) (by kernel_rfl) (by simp) ?_
      refine AllReadyH.cons (o := ⟨some 52, _, _, _, _, _⟩) rfl (fun K hK => ?_) AllReadyH.nil
      go_simp
      refine hK.out _ _ ?_ (fun hHeld => ?_)
      · (try dsimp only); (first | assumption | exact ⟨x0, x1, x2⟩ | exact sees3x (bgo (bnew (bnil _) _).drew b3) x0 x1 x2 | (refine sees3x ?_ x0 x1 x2; (repeat (first | exact bnil _ | refine Below.drew ?_ | refine bnew ?_ _))))
      clear hK K
      try simp only [Act.put, List.setIfInBounds_toArray, List.set_cons_zero, List.set_cons_succ]
      refine wpAnyH_ready (rs := [2]) (by kernel_rfl) (by simp) ?_
      refine AllReadyH.cons (o := ⟨some 53, _, _, _, _, _⟩) rfl (fun K hK => ?_) AllReadyH.nil
      go_simp
      refine (ran_of AW (some ⟨Cb, 0, none⟩) (some ⟨T, 0, none⟩) (some ⟨wr.heap.size, 0, none⟩) 1 cW 2 2 1 1 1080 1080 (tmach cs) (List.replicate 1080 0) _ (by decide) (by decide) (by decide) (by decide) (by decide) (HTT.out.below (bnew (bnil _) _).drew) (HMM.out.below (bnew (bnil _) _).drew) (Sl.own (own_below HWW.out (bnew (bnil _) _).drew)) (Sl.drew HZZ.out) (fun x hx => by rw [(List.mem_replicate.1 hx).2]; decide) (tell_res cs).2 (play_fin _ _)).mono ?_; rintro e w3 hp3; obtain ⟨v3, rs, rfl, hrow, hrs, htold, b3⟩ := hp3
      go_wp2_with fail
      refine hK.out _ _ ?_ (fun hHeld => ?_)
      · (try dsimp only); (first | assumption | exact ⟨x0, x1, x2⟩ | exact sees3x (bgo (bnew (bnil _) _).drew b3) x0 x1 x2 | (refine sees3x ?_ x0 x1 x2; (repeat (first | exact bnil _ | refine Below.drew ?_ | refine bnew ?_ _))))
      clear hK K
      try simp only [Act.put, List.setIfInBounds_toArray, List.set_cons_zero, List.set_cons_succ]
      refine wpAnyH_take (i := 3) (oi := ⟨some 50, _, _, _, _, _⟩) (v := ?_) rfl (by kernel_rfl) (by kernel_rfl) (by kernel_rfl) (fun _ _ _ h => h) (Or.inl ⟨by rfl, ?_⟩) (by assumption) ?_
      rotate_left
      · intro w hSw; (try dsimp only at hSw); go_simp <;> with_reducible rfl
      try simp only [Act.put, List.setIfInBounds_toArray, List.set_cons_zero, List.set_cons_succ]
      refine wpAnyH_take (i := 4) (oi := ⟨some 54, _, _, _, _, _⟩) (v := ?_) rfl (by kernel_rfl) (by kernel_rfl) (by kernel_rfl) (fun _ _ _ h => h) (Or.inl ⟨by rfl, ?_⟩) (by assumption) ?_
      rotate_left
      · intro w hSw; (try dsimp only at hSw); go_simp <;> with_reducible rfl
      try simp only [Act.put, List.setIfInBounds_toArray, List.set_cons_zero, List.set_cons_succ]
      refine wpAnyH_take (i := 5) (oi := ⟨some 55, _, _, _, _, _⟩) (v := ?_) rfl (by kernel_rfl) (by kernel_rfl) (by kernel_rfl) (fun _ _ _ h => h) (Or.inl ⟨by rfl, ?_⟩) (by assumption) ?_
      rotate_left
      · intro w hSw; (try dsimp only at hSw); go_simp <;> with_reducible rfl
      try simp only [Act.put, List.setIfInBounds_toArray, List.set_cons_zero, List.set_cons_succ]
      refine wpAnyH_take (i := 6) (oi := ⟨some 8, _, _, _, _, _⟩) (v := ?_) rfl (by kernel_rfl) (by kernel_rfl) (by kernel_rfl) (fun _ _ _ h => h) (Or.inl ⟨by rfl, ?_⟩) (by assumption) ?_
      rotate_left
      · intro w hSw; (try dsimp only at hSw); go_simp <;> with_reducible rfl
      try simp only [Act.put, List.setIfInBounds_toArray, List.set_cons_zero, List.set_cons_succ]
      refine wpAnyH_take (i := 7) (oi := ⟨some 9, _, _, _, _, _⟩) (v := ?_) rfl (by kernel_rfl) (by kernel_rfl) (by kernel_rfl) (fun _ _ _ h => h) (Or.inl ⟨by rfl, ?_⟩) (by assumption) ?_
      rotate_left
      · intro w hSw; (try dsimp only at hSw); go_simp <;> with_reducible rfl
      try simp only [Act.put, List.setIfInBounds_toArray, List.set_cons_zero, List.set_cons_succ]
      refine wpAnyH_done (by kernel_rfl) ?_ _
      rotate_left
      all_goals
        obtain ⟨A3, c3, rfl, hc3, hc3'⟩ := own_form hrow
        rw [(tell_res cs).1] at hrs
        have hLD : rs.length = 18 := by have := congrArg List.length hrs; rw [List.length_map, tdgs_len] at this; exact this
        rw [hLD] at hrow hc3 ⊢
        have HD := hid (DsAt.mk hLD hrow htold)
        have B3 := hid (bgo (bnew (bnil wr) (.cells (madeCells #[Value.int .i64 0] 1080) 3)).drew b3)
        have HRS := hid hrs
        have HWN3 := hid (own_below HWN.out B3.out)
        obtain ⟨bw, cw', ew, hbw, hcell⟩ := own_at HWN3.out (by rw [HL2.out]; decide)
        have HWC := hid hcell
        clear hcell
        injection ew with ew1 ew2 ew3
        clear ew2 ew3
        subst ew1
        clear hrow htold hrs b3 hLD HZZ hmk x0 x1 x2 HX9 HMM HWW HTT H
        go_wp2_with fail
        go_loopw [10] (fun i wz => ∃ k : Nat, k ≤ 18 ∧ i = .int .i64 k ∧ Hid (Below w3.heap.size w3 wz)) (fun i _ => 18 - (intOf i).toNat)
        case atStart => exact ⟨0, Nat.zero_le _, rfl, hid (bnil _)⟩
        case round =>
          obtain ⟨k, hk, rfl, BR⟩ := hrel
          by_cases hlt : k < 18
          · have j1 : (k : Int) < 18 := by omega
            obtain ⟨b9, d, At, ct, rfl, hd, lt9, u0, u1, u2, u3, u4, ut⟩ := (HD.out.below BR.out).at_ hlt
            rw [HRS.out] at hd
            obtain ⟨⟨e, he⟩, x, hx, htd⟩ := tell_at cs k d hd
            rw [he] at u1
            simp only [eI] at u1
            have en : ((e : Int) == -1) = false := beqF (by omega)
            have hl1 : d.told.length = 1 := by rw [htd]; rfl
            have hs := Sl.own ut
            rw [hl1] at u4
            rw [hl1, htd] at hs
            have HSS := hid hs
            have hcx : wr.cell? ⟨bw, k, none⟩ = some (.int .i64 x) := cell_below BR.out (HWC.out k _ (ints_at hx))
            clear hd ut hs htd he hl1 hx u0 u2 u3
            go_upto_region 21 with fail
            refine wp_region_held_drew (S := (fun w' => w'.cell? ⟨b9, k * 5 + 1, none⟩ = some (.int .i64 (e : Int)) ∧ w'.cell? ⟨b9, k * 5 + 4, none⟩ = some (.slice At 1 ct) ∧ w'.cell? ⟨bw, k, none⟩ = some (.int .i64 x))) (by kernel_rfl) ?_ (fun hHeld => ?_)
            · (try dsimp only); (first | assumption | exact ⟨u1, u4, hcx⟩ | exact sees3x (bgo (bnew (bnil _) _).drew b5) u1 u4 hcx | (refine sees3x ?_ u1 u4 hcx; (repeat (first | exact bnil _ | refine Below.drew ?_ | refine bnew ?_ _))))
            refine wpAnyH_take (i := 0) (oi := ⟨some 67, _, _, _, _, _⟩) (v := ?_) rfl (by kernel_rfl) (by kernel_rfl) (by kernel_rfl) (fun _ _ _ h => h) (Or.inl ⟨by rfl, ?_⟩) (by assumption) ?_
            rotate_left
            · intro w hSw; (try dsimp only at hSw); go_simp <;> with_reducible rfl
            try simp only [Act.put, List.setIfInBounds_toArray, List.set_cons_zero, List.set_cons_succ]
            refine wpAnyH_take (i := 1) (oi := ⟨some 68, _, _, _, _, _⟩) (v := ?_) rfl (by kernel_rfl) (by kernel_rfl) (by kernel_rfl) (fun _ _ _ h => h) (Or.inl ⟨by rfl, ?_⟩) (by assumption) ?_
            rotate_left
            · intro w hSw; (try dsimp only at hSw); go_simp <;> with_reducible rfl
            try simp only [Act.put, List.setIfInBounds_toArray, List.set_cons_zero, List.set_cons_succ]
            refine wpAnyH_take (i := 2) (oi := ⟨some 69, _, _, _, _, _⟩) (v := ?_) rfl (by kernel_rfl) (by kernel_rfl) (by kernel_rfl) (fun _ _ _ h => h) (Or.inl ⟨by rfl, ?_⟩) (by assumption) ?_
            rotate_left
            · intro w hSw; (try dsimp only at hSw); go_simp <;> with_reducible rfl
            try simp only [Act.put, List.setIfInBounds_toArray, List.set_cons_zero, List.set_cons_succ]
            refine wpAnyH_take (i := 3) (oi := ⟨some 70, _, _, _, _, _⟩) (v := ?_) rfl (by kernel_rfl) (by kernel_rfl) (by kernel_rfl) (fun _ _ _ h => h) (Or.inl ⟨by rfl, ?_⟩) (by assumption) ?_
            rotate_left
            · intro w hSw; (try dsimp only at hSw); go_simp <;> with_reducible rfl
            try simp only [Act.put, List.setIfInBounds_toArray, List.set_cons_zero, List.set_cons_succ]
            refine wpAnyH_take (i := 4) (oi := ⟨some 71, _, _, _, _, _⟩) (v := ?_) rfl (by kernel_rfl) (by kernel_rfl) (by kernel_rfl) (fun _ _ _ h => h) (Or.inl ⟨by rfl, ?_⟩) (by assumption) ?_
            rotate_left
            · intro w hSw; (try dsimp only at hSw); go_simp <;> with_reducible rfl
            try simp only [Act.put, List.setIfInBounds_toArray, List.set_cons_zero, List.set_cons_succ]
            refine wpAnyH_take (i := 5) (oi := ⟨some 72, _, _, _, _, _⟩) (v := ?_) rfl (by kernel_rfl) (by kernel_rfl) (by kernel_rfl) (fun _ _ _ h => h) (Or.inl ⟨by rfl, ?_⟩) (by assumption) ?_
            rotate_left
            · intro w hSw; (try dsimp only at hSw); go_simp <;> with_reducible rfl
            try simp only [Act.put, List.setIfInBounds_toArray, List.set_cons_zero, List.set_cons_succ]
            refine wpAnyH_take (i := 6) (oi := ⟨some 73, _, _, _, _, _⟩) (v := ?_) rfl (by kernel_rfl) (by kernel_rfl) (by kernel_rfl) (fun _ _ _ h => h) (Or.inl ⟨by rfl, ?_⟩) (by assumption) ?_
            rotate_left
            · intro w hSw; (try dsimp only at hSw); go_simp <;> with_reducible rfl
            try simp only [Act.put, List.setIfInBounds_toArray, List.set_cons_zero, List.set_cons_succ]
            refine wpAnyH_take (i := 7) (oi := ⟨some 74, _, _, _, _, _⟩) (v := ?_) rfl (by kernel_rfl) (by kernel_rfl) (by kernel_rfl) (fun _ _ _ h => h) (Or.inl ⟨by rfl, ?_⟩) (by assumption) ?_
            rotate_left
            · intro w hSw; (try dsimp only at hSw); go_simp <;> with_reducible rfl
            try simp only [Act.put, List.setIfInBounds_toArray, List.set_cons_zero, List.set_cons_succ]
            refine wpAnyH_take (i := 8) (oi := ⟨some 75, _, _, _, _, _⟩) (v := ?_) rfl (by kernel_rfl) (by kernel_rfl) (by kernel_rfl) (fun _ _ _ h => h) (Or.inl ⟨by rfl, ?_⟩) (by assumption) ?_
            rotate_left
            · intro w hSw; (try dsimp only at hSw); go_simp <;> with_reducible rfl
            try simp only [Act.put, List.setIfInBounds_toArray, List.set_cons_zero, List.set_cons_succ]
            refine wpAnyH_take (i := 9) (oi := ⟨some 76, _, _, _, _, _⟩) (v := ?_) rfl (by kernel_rfl) (by kernel_rfl) (by kernel_rfl) (fun _ _ _ h => h) (Or.inl ⟨by rfl, ?_⟩) (by assumption) ?_
            rotate_left
            · intro w hSw; (try dsimp only at hSw); go_simp <;> with_reducible rfl
            try simp only [Act.put, List.setIfInBounds_toArray, List.set_cons_zero, List.set_cons_succ]
            refine wpAnyH_take (i := 10) (oi := ⟨some 77, _, _, _, _, _⟩) (v := ?_) rfl (by kernel_rfl) (by kernel_rfl) (by kernel_rfl) (fun _ _ _ h => h) (Or.inl ⟨by rfl, ?_⟩) (by assumption) ?_
            rotate_left
            · intro w hSw; (try dsimp only at hSw); go_simp <;> with_reducible rfl
            try simp only [Act.put, List.setIfInBounds_toArray, List.set_cons_zero, List.set_cons_succ]
            refine wpAnyH_take (i := 11) (oi := ⟨some 78, _, _, _, _, _⟩) (v := ?_) rfl (by kernel_rfl) (by kernel_rfl) (by kernel_rfl) (fun _ _ _ h => h) (Or.inl ⟨by rfl, ?_⟩) (by assumption) ?_
            rotate_left
            · intro w hSw; (try dsimp only at hSw); go_simp <;> with_reducible rfl
            try simp only [Act.put, List.setIfInBounds_toArray, List.set_cons_zero, List.set_cons_succ]
            refine wpAnyH_take (i := 12) (oi := ⟨some 79, _, _, _, _, _⟩) (v := ?_) rfl (by kernel_rfl) (by kernel_rfl) (by kernel_rfl) (fun _ _ _ h => h) (Or.inl ⟨by rfl, ?_⟩) (by assumption) ?_
            rotate_left
            · intro w hSw; (try dsimp only at hSw); go_simp <;> with_reducible rfl
            try simp only [Act.put, List.setIfInBounds_toArray, List.set_cons_zero, List.set_cons_succ]
            refine wpAnyH_take (i := 13) (oi := ⟨some 80, _, _, _, _, _⟩) (v := ?_) rfl (by kernel_rfl) (by kernel_rfl) (by kernel_rfl) (fun _ _ _ h => h) (Or.inl ⟨by rfl, ?_⟩) (by assumption) ?_
            rotate_left
            · intro w hSw; (try dsimp only at hSw); go_simp <;> with_reducible rfl
            try simp only [Act.put, List.setIfInBounds_toArray, List.set_cons_zero, List.set_cons_succ]
            refine wpAnyH_take (i := 14) (oi := ⟨some 81, _, _, _, _, _⟩) (v := ?_) rfl (by kernel_rfl) (by kernel_rfl) (by kernel_rfl) (fun _ _ _ h => h) (Or.inl ⟨by rfl, ?_⟩) (by assumption) ?_
            rotate_left
            · intro w hSw; (try dsimp only at hSw); go_simp <;> with_reducible rfl
            try simp only [Act.put, List.setIfInBounds_toArray, List.set_cons_zero, List.set_cons_succ]
            refine wpAnyH_take (i := 15) (oi := ⟨some 82, _, _, _, _, _⟩) (v := ?_) rfl (by kernel_rfl) (by kernel_rfl) (by kernel_rfl) (fun _ _ _ h => h) (Or.inl ⟨by rfl, ?_⟩) (by assumption) ?_
            rotate_left
            · intro w hSw; (try dsimp only at hSw); go_simp <;> with_reducible rfl
            try simp only [Act.put, List.setIfInBounds_toArray, List.set_cons_zero, List.set_cons_succ]
            refine wpAnyH_ready (rs := [16]) (by kernel_rfl) (by simp) ?_
            refine AllReadyH.cons (o := ⟨some 83, _, _, _, _, _⟩) rfl (fun K hK => ?_) AllReadyH.nil
            go_simp
            refine hK.out _ _ ?_ (fun hHeld => ?_)
            · (try dsimp only); (first | assumption | exact ⟨u1, u4, hcx⟩ | exact sees3x (bgo (bnew (bnil _) _).drew b5) u1 u4 hcx | (refine sees3x ?_ u1 u4 hcx; (repeat (first | exact bnil _ | refine Below.drew ?_ | refine bnew ?_ _))))
            clear hK K
            try simp only [Act.put, List.setIfInBounds_toArray, List.set_cons_zero, List.set_cons_succ]
            refine wpAnyH_ready (rs := [17]) (by kernel_rfl) (by simp) ?_
            refine AllReadyH.cons (o := ⟨some 84, _, _, _, _, _⟩) rfl (fun K hK => ?_) AllReadyH.nil
            go_simp
            refine (same_ints At _ 1 ct 1 [x] _ (by decide) (HSS.out.below (bnew (bnil _) _).drew) (Sl.drew (Sl.fresh _ #[_] 3 1 1 rfl))).mono ?_; rintro e5 w5 ⟨rfl, b5⟩
            go_wp2_with fail
            refine hK.out _ _ ?_ (fun hHeld => ?_)
            · (try dsimp only); (first | assumption | exact ⟨u1, u4, hcx⟩ | exact sees3x (bgo (bnew (bnil _) _).drew b5) u1 u4 hcx | (refine sees3x ?_ u1 u4 hcx; (repeat (first | exact bnil _ | refine Below.drew ?_ | refine bnew ?_ _))))
            clear hK K
            try simp only [Act.put, List.setIfInBounds_toArray, List.set_cons_zero, List.set_cons_succ]
            refine wpAnyH_take (i := 18) (oi := ⟨some 85, _, _, _, _, _⟩) (v := ?_) rfl (by kernel_rfl) (by kernel_rfl) (by kernel_rfl) (fun _ _ _ h => h) (Or.inl ⟨by rfl, ?_⟩) (by assumption) ?_
            rotate_left
            · intro w hSw; (try dsimp only at hSw); go_simp <;> with_reducible rfl
            try simp only [Act.put, List.setIfInBounds_toArray, List.set_cons_zero, List.set_cons_succ]
            refine wpAnyH_take (i := 19) (oi := ⟨some 86, _, _, _, _, _⟩) (v := ?_) rfl (by kernel_rfl) (by kernel_rfl) (by kernel_rfl) (fun _ _ _ h => h) (Or.inl ⟨by rfl, ?_⟩) (by assumption) ?_
            rotate_left
            · intro w hSw; (try dsimp only at hSw); go_simp <;> with_reducible rfl
            try simp only [Act.put, List.setIfInBounds_toArray, List.set_cons_zero, List.set_cons_succ]
            refine wpAnyH_done (by kernel_rfl) ?_ _
            rotate_left
            all_goals
              have B5 := hid (bgo BR.out (bgo (bnew (bnil _) _).drew b5))
              go_wp2_with fail
              go_roundw
              case rel => exact ⟨k + 1, by omega, by go_num, B5⟩
              case measure => simp [intOf]; omega
          · obtain rfl : k = 18 := by omega
            have j1 : ¬ (((18 : Nat) : Int)) < 18 := by omega
            go_wp2_with fail
            go_ret
            exact ⟨rfl, bgo (bgo B9.out B3.out) BR.out⟩
end Go.Proofs.YtnoinojhocicjaaDoor
