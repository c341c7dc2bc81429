/-
  The walk of a law of ring. (Merged by mergeR.py.)
-/
import Derived.Test.YtiinnkdhccgelaaDoorRingW2
namespace Go.Proofs.YtiinnkdhccgelaaDoor
open Go.RowKit
set_option linter.unusedVariables false

set_option maxHeartbeats 8000000 in
set_option maxRecDepth 100000 in
theorem law_ringFull (xi : Int) (S : Option Addr) (p q : Nat) (bs : List UInt8) (w : World) (ha : -9223372036854775808 ≤ xi) (ha1 : xi ≤ 9223372036854775807) (hp : p ≤ q) (hq : q ≤ maxLen) (_ : q * 1 ≤ 140737488351232) (hS : Sl w 1 S p (byts bs)) (hT : STab w) :
    Calls Tryd.prog 6 #[.int .i64 xi, .slice S p q] w fun e w' => e = .returned (.bool true) ∧ Below w.heap.size w w' := by
  have HS := hid hS; have HT := hid hT
  clear hS hT
  have hpl : p ≤ 9223372036854775807 := by unfold maxLen at hq; omega
  clear hq
  have m1 := pk_lt xi 8 (by decide)
  obtain ⟨N, hR⟩ : ∃ N : Nat, wrap64 (1 + (pk xi 8 : Int)) = (N : Int) ∧ N = 1 + pk xi 8 := ⟨1 + pk xi 8, by rw [wrap_mid (by omega) (by omega)]; omega, rfl⟩
  have h1 : 1 ≤ N := by omega
  have h8 : N ≤ 8 := by omega
  have HR := hid hR.1
  clear hR m1
  go_enter Tryd.func6, Tryd.ntmps6
  go_wp2_with fail
  refine (picked xi 8 w (by decide) ha ha1 (by decide)).mono ?_
  rintro e w' ⟨rfl, rfl⟩
  go_wp2_with fail
  rw [HR.out]
  refine (ring_machine N w h1 h8 HT.out).mono ?_
  rintro e w1 hp1
  obtain ⟨AW, cW, Cb, T, cv1, tv, av, rfl, hW, hM, b1⟩ := hp1
  have HM := hid hM; have B1 := hid b1; have HW := hid hW
  clear hM b1 hW
  obtain ⟨X, hX⟩ : ∃ X, w1.heap.size = X := ⟨_, rfl⟩
  go_upto_region 3 with fail
  have HX0 := hid (blkN w1 34 #[.slice AW (2 + N) cW, .slice (some ⟨Cb, 0, none⟩) 2 2, .slice (some ⟨T, 0, none⟩) 2 2] X hX)
  have BA := hid (bgo B1.out (bnew (bnil w1) (.cells #[.slice AW (2 + N) cW, .slice (some ⟨Cb, 0, none⟩) 2 2, .slice (some ⟨T, 0, none⟩) 2 2] 34)))
  have HMN := hid (HM.out.below (bnew (bnil w1) (.cells #[.slice AW (2 + N) cW, .slice (some ⟨Cb, 0, none⟩) 2 2, .slice (some ⟨T, 0, none⟩) 2 2] 34)))
  have HMA := hid (rgM_at h8 HMN.out)
  have HWA := hid (own_below HW.out (bnew (bnil w1) (.cells #[.slice AW (2 + N) cW, .slice (some ⟨Cb, 0, none⟩) 2 2, .slice (some ⟨T, 0, none⟩) 2 2] 34)))
  try rw [hX]
  generalize World.alloc w1 _ = wA at *
  clear hX HM HW
  have y0 : wA.cell? ⟨X, 0, none⟩ = some (.slice AW (2 + N) cW) := HX0.out.cell 0
  have y1 : wA.cell? ⟨X, 1, none⟩ = some (.slice (some ⟨Cb, 0, none⟩) 2 2) := HX0.out.cell 1
  have y2 : wA.cell? ⟨X, 2, none⟩ = some (.slice (some ⟨T, 0, none⟩) 2 2) := HX0.out.cell 2
  refine wp_region_held_drew (S := (fun w' => w'.cell? ⟨X, 0, none⟩ = some (.slice AW (2 + N) cW) ∧ w'.cell? ⟨X, 1, none⟩ = some (.slice (some ⟨Cb, 0, none⟩) 2 2) ∧ w'.cell? ⟨X, 2, none⟩ = some (.slice (some ⟨T, 0, none⟩) 2 2))) (by kernel_rfl) ?_ (fun hHeld => ?_)
  · (try dsimp only); (first | assumption | exact ⟨y0, y1, y2⟩ | exact ⟨z0, z1, z2⟩ | exact ⟨u0, u1, u2⟩)
  refine wpAnyH_take (i := 0) (oi := ⟨some 27, _, _, _, _, _⟩) (v := ?_) rfl (by kernel_rfl) (by kernel_rfl) (by kernel_rfl) (fun _ _ _ h => h) (Or.inl ⟨by rfl, ?_⟩) (by assumption) ?_
  rotate_left
  · intro w hSw; (try dsimp only at hSw); go_simp <;> with_reducible rfl
  try simp only [Act.put, List.setIfInBounds_toArray, List.set_cons_zero, List.set_cons_succ]
  refine wpAnyH_take (i := 1) (oi := ⟨some 28, _, _, _, _, _⟩) (v := ?_) rfl (by kernel_rfl) (by kernel_rfl) (by kernel_rfl) (fun _ _ _ h => h) (Or.inl ⟨by rfl, ?_⟩) (by assumption) ?_
  rotate_left
  · intro w hSw; (try dsimp only at hSw); go_simp <;> with_reducible rfl
  try simp only [Act.put, List.setIfInBounds_toArray, List.set_cons_zero, List.set_cons_succ]
  refine wpAnyH_ready (rs := [2]) (by kernel_rfl) (by simp) ?_
  refine AllReadyH.cons (o := ⟨some 29, _, _, _, _, _⟩) rfl (fun K hK => ?_) AllReadyH.nil
  go_simp
  refine (schedule_n S p q 2 1200 bs _ hpl (by decide) (by decide) (by decide) (HS.out.below (bgo BA.out (bnil wA).drew))).mono ?_; rintro e w2 ⟨v, rfl, ho⟩; have hl4 : (schedN bs 2 1200).length ≤ 1200 := (by have := schedN_len bs 2 1200; omega); have HLT := hid (schedN_lt bs (N := 2) (by decide) 1200); generalize schedN bs 2 1200 = all at *; obtain ⟨Al, cl, rfl, hcl, hcl2⟩ := ho.form; have HO := hid ho; clear ho; rw [show (nats all).length = all.length by simp] at *; unfold maxLen at hcl2; obtain ⟨NN, hN⟩ : ∃ NN, all.length = NN := ⟨_, rfl⟩; rw [hN] at HO hl4 hcl ⊢; have HN := hid hN; clear hN; have BS := hid (bgo (bnil wA).drew HO.out.below); obtain ⟨z0, z1, z2⟩ := cells3 BS.out y0 y1 y2
  go_wp2_with fail
  refine hK.out _ _ ?_ (fun hHeld => ?_)
  · (try dsimp only); (first | assumption | exact ⟨y0, y1, y2⟩ | exact ⟨z0, z1, z2⟩ | exact ⟨u0, u1, u2⟩)
  clear hK K
  try simp only [Act.put, List.setIfInBounds_toArray, List.set_cons_zero, List.set_cons_succ]
  refine wpAnyH_ready (rs := [3]) (by kernel_rfl) (by simp) ?_
  refine AllReadyH.cons (o := ⟨some 30, _, _, _, _, _⟩) rfl (fun K hK => ?_) AllReadyH.nil
  go_simp
  have HWS := hid (show Sl w2 1 AW (2 + N) (ints (List.replicate (N + 2) (0 : Int))) from Sl.own (own_below HWA.out BS.out)); have HNE := hid (ring_res ⟨h1, h8⟩ all).2.2; have HMB := hid (HMA.out.below BS.out); refine (ran_of AW (some ⟨Cb, 0, none⟩) (some ⟨T, 0, none⟩) Al (2 + N) cW 2 2 2 2 NN cl (rgM N) all w2 (by omega) (by decide) (by decide) (by omega) hcl (HT.out.below (bgo BA.out BS.out)) HMB.out HWS.out HO.out.sl HLT.out HNE.out (play_fin _ all)).mono ?_; rintro e w3 hp3; obtain ⟨v3, rs, rfl, hrow, hrs, htold, b3⟩ := hp3; obtain ⟨A3, c3, rfl, hc3, hc3'⟩ := own_form hrow; obtain ⟨LD, hLD⟩ : ∃ LD, rs.length = LD := ⟨_, rfl⟩; rw [hLD] at hrow hc3 ⊢; have HD := hid (DsAt.mk hLD hrow htold); have HRS := hid hrs; have B3 := hid (bgo BS.out b3); clear hrow htold hrs b3 hLD; obtain ⟨u0, u1, u2⟩ := cells3 B3.out y0 y1 y2
  go_wp2_with fail
  refine hK.out _ _ ?_ (fun hHeld => ?_)
  · (try dsimp only); (first | assumption | exact ⟨y0, y1, y2⟩ | exact ⟨z0, z1, z2⟩ | exact ⟨u0, u1, u2⟩)
  clear hK K
  try simp only [Act.put, List.setIfInBounds_toArray, List.set_cons_zero, List.set_cons_succ]
  refine wpAnyH_take (i := 4) (oi := ⟨some 26, _, _, _, _, _⟩) (v := ?_) rfl (by kernel_rfl) (by kernel_rfl) (by kernel_rfl) (fun _ _ _ h => h) (Or.inl ⟨by rfl, ?_⟩) (by assumption) ?_
  rotate_left
  · intro w hSw; (try dsimp only at hSw); go_simp <;> with_reducible rfl
  try simp only [Act.put, List.setIfInBounds_toArray, List.set_cons_zero, List.set_cons_succ]
  refine wpAnyH_take (i := 5) (oi := ⟨some 31, _, _, _, _, _⟩) (v := ?_) rfl (by kernel_rfl) (by kernel_rfl) (by kernel_rfl) (fun _ _ _ h => h) (Or.inl ⟨by rfl, ?_⟩) (by assumption) ?_
  rotate_left
  · intro w hSw; (try dsimp only at hSw); go_simp <;> with_reducible rfl
  try simp only [Act.put, List.setIfInBounds_toArray, List.set_cons_zero, List.set_cons_succ]
  refine wpAnyH_take (i := 6) (oi := ⟨some 32, _, _, _, _, _⟩) (v := ?_) rfl (by kernel_rfl) (by kernel_rfl) (by kernel_rfl) (fun _ _ _ h => h) (Or.inl ⟨by rfl, ?_⟩) (by assumption) ?_
  rotate_left
  · intro w hSw; (try dsimp only at hSw); go_simp <;> with_reducible rfl
  try simp only [Act.put, List.setIfInBounds_toArray, List.set_cons_zero, List.set_cons_succ]
  refine wpAnyH_take (i := 7) (oi := ⟨some 8, _, _, _, _, _⟩) (v := ?_) rfl (by kernel_rfl) (by kernel_rfl) (by kernel_rfl) (fun _ _ _ h => h) (Or.inl ⟨by rfl, ?_⟩) (by assumption) ?_
  rotate_left
  · intro w hSw; (try dsimp only at hSw); go_simp <;> with_reducible rfl
  try simp only [Act.put, List.setIfInBounds_toArray, List.set_cons_zero, List.set_cons_succ]
  refine wpAnyH_take (i := 8) (oi := ⟨some 9, _, _, _, _, _⟩) (v := ?_) rfl (by kernel_rfl) (by kernel_rfl) (by kernel_rfl) (fun _ _ _ h => h) (Or.inl ⟨by rfl, ?_⟩) (by assumption) ?_
  rotate_left
  · intro w hSw; (try dsimp only at hSw); go_simp <;> with_reducible rfl
  try simp only [Act.put, List.setIfInBounds_toArray, List.set_cons_zero, List.set_cons_succ]
  refine wpAnyH_done (by kernel_rfl) ?_ _
  rotate_left
  have B03 := hid (bgo BA.out B3.out)
  clear hHeld
  clear z0 z1 z2 u0 u1 u2 y0 y1 y2 HX0 HMA HWA BA HO HWS HMB BS HMN
  have HQ := hid (show RFul N (doings (play (rgM N) all).evs) from by obtain ⟨H, hH⟩ := (ring_res ⟨h1, h8⟩ all).1; exact ring_full hH)
  have HTM := hid (play_di (rgM N) all).time
  rw [← HRS.out] at HQ HTM
  rw [HN.out] at HTM
  clear HRS HNE
  unfold maxLen at hc3'
  go_wp2_with fail
  obtain ⟨ds, hds⟩ : ∃ ds, rs.map (·.1) = ds := ⟨_, rfl⟩
  have HDS := hid hds
  have HDL := hid (show ds.length = LD by rw [← hds, List.length_map]; exact HD.out.len)
  rw [hds] at HQ HTM
  clear hds
  go_loopw [10] (fun i wr => ∃ k : Nat, k ≤ LD ∧ i = .int .i64 k ∧ Hid (Below w3.heap.size w3 wr)) (fun i _ => LD - (intOf i).toNat)
  case atStart => exact ⟨0, Nat.zero_le _, rfl, hid (bnil _)⟩
  case round =>
    obtain ⟨k, hk, rfl, BR⟩ := hrel
    by_cases hlt : k < LD
    · have j1 : (k : Int) < (LD : Int) := by omega
      obtain ⟨b9, d, At, ct, rfl, hd, lt9, u0, u1, u2, u3, u4, ut⟩ := (HD.out.below BR.out).at_ hlt
      rw [HDS.out] at hd
      have HDk := hid hd
      have hcall := HQ.out.call k d hd
      have htm := (HTM.out k d hd).1
      have HUT := hid ut
      obtain ⟨bx, hbx⟩ : ∃ bx, wr.heap.size = bx := ⟨_, rfl⟩
      have XB0 := hid (blkN wr 46 #[.int .i64 (d.b : Int), .int .i64 (eI d.e), .int .i64 (d.t : Int), .int .i64 (d.c : Int), .slice At d.told.length ct] bx hbx)
      have BN0 := hid (bnew (bnil wr) (.cells #[.int .i64 (d.b : Int), .int .i64 (eI d.e), .int .i64 (d.t : Int), .int .i64 (d.c : Int), .slice At d.told.length ct] 46))
      clear hd ut
      go_upto_region 10 with fail
      generalize World.alloc wr _ = wq at *
      try rw [hbx]
      have BQ := hid (bgo BR.out BN0.out)
      have HUq := hid (own_below HUT.out BN0.out)
      clear hbx BN0 u0 u1 u2 u3 u4 lt9 HUT
      have x1 : wq.cell? ⟨bx, 1, none⟩ = some (.int .i64 (eI d.e)) := XB0.out.cell 1
      cases he : d.e with
      | none =>
        rw [he] at x1
        replace x1 : wq.cell? ⟨bx, 1, none⟩ = some (.int .i64 (-1)) := x1
        clear he
        go_wp2_with fail
        go_roundw
        case rel => exact ⟨k + 1, by omega, by go_num, BQ⟩
        case measure => simp [intOf]; omega
      | some e =>
        rw [he] at x1
        replace x1 : wq.cell? ⟨bx, 1, none⟩ = some (.int .i64 (e : Int)) := x1
        have HEE := hid he
        have hel := ((HTM.out k d HDk.out).2 e he).2
        obtain ⟨v, htd⟩ := HQ.out.told k d e HDk.out he
        have HTD := hid htd
        have hl1 : d.told.length = 1 := by rw [htd]; rfl
        have en : ¬ ((e : Int) = -1) := by omega
        have enb : ((e : Int) == -1) = false := beqF (by omega)
        have x4 : wq.cell? ⟨bx, 4, none⟩ = some (.slice At d.told.length ct) := XB0.out.cell 4
        rw [hl1] at x4
        clear he htd hl1
        go_wp2_with fail
        try rw [enb]
        have enb2 : (eI (some e) == -1) = false := enb
        try rw [enb2]
        clear enb2
        clear x1 x4 en enb
        go_loopw [12, 13, 14, 15] (fun sv mv bv i wz => ∃ (j q1 q2 q3 : Nat), j ≤ LD ∧ i = .int .i64 j ∧ sv = .int .i64 q1 ∧ mv = .int .i64 q2 ∧ bv = .int .i64 q3 ∧ q1 ≤ j ∧ q2 ≤ j ∧ q3 ≤ j ∧ Hid (Cn3 ds d e j q1 q2 q3) ∧ Hid (Below wq.heap.size wq wz)) (fun _ _ _ i _ => LD - (intOf i).toNat)
        case atStart => exact ⟨0, 0, 0, 0, Nat.zero_le _, rfl, rfl, rfl, rfl, Nat.le_refl _, Nat.le_refl _, Nat.le_refl _, hid Cn3.start, hid (bnil _)⟩
        case round =>
          obtain ⟨j, q1, q2, q3, hj, rfl, rfl, rfl, rfl, hq1, hq2, hq3, HC, BZ⟩ := hrel
          by_cases hlt2 : j < LD
          · have j2 : (j : Int) < (LD : Int) := by omega
            obtain ⟨b8, y, Ay, cy, e8, hd2, lt8, v0, v1, v2, v3, v4, vt⟩ := (HD.out.below (bgo BQ.out BZ.out)).at_ hlt2
            injection e8 with e8; injection e8 with e8; subst e8
            rw [HDS.out] at hd2
            have HDj := hid hd2
            have hcall2 := HQ.out.call j y hd2
            have htm2 := (HTM.out j y hd2).1
            have HVT := hid vt
            obtain ⟨by_, hby⟩ : ∃ by_, wr.heap.size = by_ := ⟨_, rfl⟩
            have YB0 := hid (blkN wr 46 #[.int .i64 (y.b : Int), .int .i64 (eI y.e), .int .i64 (y.t : Int), .int .i64 (y.c : Int), .slice Ay y.told.length cy] by_ hby)
            have BN1 := hid (bnew (bnil wr) (.cells #[.int .i64 (y.b : Int), .int .i64 (eI y.e), .int .i64 (y.t : Int), .int .i64 (y.c : Int), .slice Ay y.told.length cy] 46))
            clear hd2 vt
            go_upto_region 20 with fail
            generalize World.alloc wr _ = wv at *
            try rw [hby]
            have BV := hid (bgo BZ.out BN1.out)
            have HVq := hid (own_below HVT.out BN1.out)
            have XBv := hid (XB0.out.below' BV.out)
            clear v0 v1 v2 v3 v4 lt8 hby BN1 HVT BZ BQ
            have a0 : wv.cell? ⟨by_, 0, none⟩ = some (.int .i64 (y.b : Int)) := YB0.out.cell 0
            have a1 : wv.cell? ⟨by_, 1, none⟩ = some (.int .i64 (eI y.e)) := YB0.out.cell 1
            have a2 : wv.cell? ⟨by_, 2, none⟩ = some (.int .i64 (y.t : Int)) := YB0.out.cell 2
            have a3 : wv.cell? ⟨by_, 3, none⟩ = some (.int .i64 (y.c : Int)) := YB0.out.cell 3
            have a4 : wv.cell? ⟨by_, 4, none⟩ = some (.slice Ay y.told.length cy) := YB0.out.cell 4
            have c0 : wv.cell? ⟨bx, 0, none⟩ = some (.int .i64 (d.b : Int)) := XBv.out.cell 0
            have c1 : wv.cell? ⟨bx, 1, none⟩ = some (.int .i64 (eI d.e)) := XBv.out.cell 1
            have c2 : wv.cell? ⟨bx, 2, none⟩ = some (.int .i64 (d.t : Int)) := XBv.out.cell 2
            have c3 : wv.cell? ⟨bx, 3, none⟩ = some (.int .i64 (d.c : Int)) := XBv.out.cell 3
            have c4 : wv.cell? ⟨bx, 4, none⟩ = some (.slice At d.told.length ct) := XBv.out.cell 4
            rw [HEE.out] at c1
            replace c1 : wv.cell? ⟨bx, 1, none⟩ = some (.int .i64 (e : Int)) := c1
            have hdd2 : d.t = 0 ∨ d.t = 1 := by omega
            have hyy2 : y.t = 0 ∨ y.t = 1 := by omega
            clear YB0 XBv hcall2 htm2 htm hel hlt hlt2
            clear hdd2
            go_cut [17] from 56 to 136 (fun v wx => ∃ g : Bool, v = .bool g ∧ Hid (gdT y.t y = g) ∧ wx = wv)
            case first =>
              clear c0 c1 c2 c3 c4
              rcases hyy2 with hyt | hyt
              · rw [hyt] at a2
                replace a2 : wv.cell? ⟨by_, 2, none⟩ = some (.int .i64 0) := a2
                cases he2 : y.e with
                | none =>
                  rw [he2] at a1
                  replace a1 : wv.cell? ⟨by_, 1, none⟩ = some (.int .i64 (-1)) := a1
                  have HNX := hid (gdn he2)
                  clear he2 hyt
                  go_wp2_with fail
                  go_meet
                  exact ⟨false, rfl, HNX, rfl⟩
                | some e2 =>
                  rw [he2] at a1
                  replace a1 : wv.cell? ⟨by_, 1, none⟩ = some (.int .i64 (e2 : Int)) := a1
                  have en2 : ((e2 : Int) == -1) = false := beqF (by omega)
                  have en3 : ((e2 : Int) != -1) = true := bneT (by omega)
                  obtain ⟨u, htd2⟩ := HQ.out.told j y e2 HDj.out he2
                  obtain ⟨bo, rfl, hbo, o0⟩ := told_one HVq.out htd2
                  rw [htd2] at a4
                  replace a4 : wv.cell? ⟨by_, 4, none⟩ = some (.slice (some ⟨bo, 0, none⟩) 1 cy) := a4
                  clear HVq hbo
                  by_cases hu : u = 1
                  · subst hu
                    have HNX := hid (gd01 hyt he2 htd2)
                    clear he2 hyt htd2
                    go_wp2_with fail
                    go_meet
                    exact ⟨true, rfl, HNX, rfl⟩
                  · have iu : (u == 1) = false := beqF hu
                    have iv : (u != 1) = true := bneT hu
                    have HNX := hid (gd00 hyt he2 htd2 hu)
                    clear he2 hyt htd2
                    go_wp2_with fail
                    go_meet
                    exact ⟨false, rfl, HNX, rfl⟩
              · rw [hyt] at a2
                replace a2 : wv.cell? ⟨by_, 2, none⟩ = some (.int .i64 1) := a2
                cases he2 : y.e with
                | none =>
                  rw [he2] at a1
                  replace a1 : wv.cell? ⟨by_, 1, none⟩ = some (.int .i64 (-1)) := a1
                  have HNX := hid (gdn he2)
                  clear he2 hyt
                  go_wp2_with fail
                  go_meet
                  exact ⟨false, rfl, HNX, rfl⟩
                | some e2 =>
                  rw [he2] at a1
                  replace a1 : wv.cell? ⟨by_, 1, none⟩ = some (.int .i64 (e2 : Int)) := a1
                  have en2 : ((e2 : Int) == -1) = false := beqF (by omega)
                  have en3 : ((e2 : Int) != -1) = true := bneT (by omega)
                  obtain ⟨u, htd2⟩ := HQ.out.told j y e2 HDj.out he2
                  obtain ⟨bo, rfl, hbo, o0⟩ := told_one HVq.out htd2
                  rw [htd2] at a4
                  replace a4 : wv.cell? ⟨by_, 4, none⟩ = some (.slice (some ⟨bo, 0, none⟩) 1 cy) := a4
                  clear HVq hbo
                  by_cases hu : u = -1
                  · subst hu
                    have HNX := hid (gd10 hyt he2 htd2)
                    clear he2 hyt htd2
                    go_wp2_with fail
                    go_meet
                    exact ⟨false, rfl, HNX, rfl⟩
                  · have iu : (u == -1) = false := beqF hu
                    have iv : (u != -1) = true := bneT hu
                    have HNX := hid (gd11 hyt he2 htd2 hu)
                    clear he2 hyt htd2
                    go_wp2_with fail
                    go_meet
                    exact ⟨true, rfl, HNX, rfl⟩
            case rest =>
              obtain ⟨g, rfl, HG, hwc⟩ := hcut
              subst hwc
              clear hyy2 HVq
              by_cases hsame : y.t = d.t
              · rw [hsame] at a2
                cases g with
                | false => 
                  have HNX := hid (HC.out.m1 HDj.out hsame HG.out)
                  clear hsame
                  go_wp2_with fail
                  go_roundw
                  case rel => exact ⟨j + 1, q1, q2, q3, by omega, (by first | rfl | go_num), (by first | rfl | go_num), (by first | rfl | go_num), (by first | rfl | go_num), by omega, by omega, by omega, HNX, BV⟩
                  case measure => simp [intOf]; omega
                | true => 
                  rcases Nat.lt_or_ge y.c d.c with hc | hc
                  · have ic : (y.c : Int) < (d.c : Int) := by omega
                    have HNX := hid (HC.out.l5 HDj.out hsame HG.out hc)
                    clear hsame hc
                    go_wp2_with fail
                    go_roundw
                    case rel => exact ⟨j + 1, q1, q2, q3 + 1, by omega, (by first | rfl | go_num), (by first | rfl | go_num), (by first | rfl | go_num), (by first | rfl | go_num), by omega, by omega, by omega, HNX, BV⟩
                    case measure => simp [intOf]; omega
                  · have ic : ¬ (y.c : Int) < (d.c : Int) := by omega
                    have hc : ¬ y.c < d.c := by omega
                    have HNX := hid (HC.out.l6 HDj.out hsame hc)
                    clear hsame
                    go_wp2_with fail
                    go_roundw
                    case rel => exact ⟨j + 1, q1, q2, q3, by omega, (by first | rfl | go_num), (by first | rfl | go_num), (by first | rfl | go_num), (by first | rfl | go_num), by omega, by omega, by omega, HNX, BV⟩
                    case measure => simp [intOf]; omega
              · have idf : ((y.t : Int) == (d.t : Int)) = false := beqF (by omega)
                have idf2 : ¬ ((y.t : Int) = (d.t : Int)) := by omega
                cases g with
                | false => 
                  cases he2 : y.e with
                  | none =>
                    rw [he2] at a1
                    simp only [eI] at a1
                    rcases Nat.lt_or_ge y.b e with hb | hb
                    · have ib : (y.b : Int) < (e : Int) := by omega
                      have HNX := hid (HC.out.l2 HDj.out hsame he2 hb)
                      clear hsame he2 hb
                      go_wp2_with fail
                      go_roundw
                      case rel => exact ⟨j + 1, q1, q2 + 1, q3, by omega, (by first | rfl | go_num), (by first | rfl | go_num), (by first | rfl | go_num), (by first | rfl | go_num), by omega, by omega, by omega, HNX, BV⟩
                      case measure => simp [intOf]; omega
                    · have ib : ¬ (y.b : Int) < (e : Int) := by omega
                      have hb : ¬ y.b < e := by omega
                      have HNX := hid (HC.out.l3 HDj.out hsame he2 hb)
                      clear hsame he2
                      go_wp2_with fail
                      go_roundw
                      case rel => exact ⟨j + 1, q1, q2, q3, by omega, (by first | rfl | go_num), (by first | rfl | go_num), (by first | rfl | go_num), (by first | rfl | go_num), by omega, by omega, by omega, HNX, BV⟩
                      case measure => simp [intOf]; omega
                  | some e2 =>
                    rw [he2] at a1
                    simp only [eI] at a1
                    have en2 : ((e2 : Int) == -1) = false := beqF (by omega)
                    have en4 : ¬ ((e2 : Int) = -1) := by omega
                    have HNX := hid (HC.out.l4 HDj.out he2 HG.out)
                    clear hsame he2
                    go_wp2_with fail
                    go_roundw
                    case rel => exact ⟨j + 1, q1, q2, q3, by omega, (by first | rfl | go_num), (by first | rfl | go_num), (by first | rfl | go_num), (by first | rfl | go_num), by omega, by omega, by omega, HNX, BV⟩
                    case measure => simp [intOf]; omega
                | true => 
                  obtain ⟨e2, he2⟩ := gd_some HG.out
                  rcases Nat.lt_or_ge y.b e with hb | hb
                  · have ib : (y.b : Int) < (e : Int) := by omega
                    rcases Nat.lt_or_ge e2 d.b with hq | hq
                    · have iq : True := trivial
                      have HNX := hid (HC.out.l7 HDj.out hsame he2 HG.out hb hq)
                      have hah : aheadB y d = true := ah1 he2 hq
                      have HA := hid (show ∀ w9, Calls Tryd.prog 30 #[.agg #[.int .i64 (y.b : Int), .int .i64 (eI y.e), .int .i64 (y.t : Int), .int .i64 (y.c : Int), .slice Ay y.told.length cy], .agg #[.int .i64 (d.b : Int), .int .i64 (e : Int), .int .i64 (d.t : Int), .int .i64 (d.c : Int), .slice At d.told.length ct]] w9 (fun e9 w8 => e9 = .returned (.bool true) ∧ Below w9.heap.size w9 w8) from fun w9 => by
                        have h := ahead_of y d (.slice Ay y.told.length cy) (.slice At d.told.length ct) w9
                        unfold dgV at h
                        rw [hah, HEE.out] at h
                        exact h)
                      clear hsame hb hah he2 hq
                      go_wp2_with fail
                      refine (HA.out _).mono ?_
                      rintro e9 w9 ⟨rfl, b9⟩
                      have BV := hid (bgo BV.out b9)
                      go_wp2_with fail
                      go_roundw
                      case rel => exact ⟨j + 1, q1 + 1, q2 + 1, q3, by omega, (by first | rfl | go_num), (by first | rfl | go_num), (by first | rfl | go_num), (by first | rfl | go_num), by omega, by omega, by omega, HNX, BV⟩
                      case measure => simp [intOf]; omega
                    · have hq : ¬ e2 < d.b := by omega
                      have HNX := hid (HC.out.l8 HDj.out hsame he2 HG.out hb hq)
                      have hah : aheadB y d = false := ah0 he2 hq
                      have HA := hid (show ∀ w9, Calls Tryd.prog 30 #[.agg #[.int .i64 (y.b : Int), .int .i64 (eI y.e), .int .i64 (y.t : Int), .int .i64 (y.c : Int), .slice Ay y.told.length cy], .agg #[.int .i64 (d.b : Int), .int .i64 (e : Int), .int .i64 (d.t : Int), .int .i64 (d.c : Int), .slice At d.told.length ct]] w9 (fun e9 w8 => e9 = .returned (.bool false) ∧ Below w9.heap.size w9 w8) from fun w9 => by
                        have h := ahead_of y d (.slice Ay y.told.length cy) (.slice At d.told.length ct) w9
                        unfold dgV at h
                        rw [hah, HEE.out] at h
                        exact h)
                      clear hsame hb hah he2 hq
                      go_wp2_with fail
                      refine (HA.out _).mono ?_
                      rintro e9 w9 ⟨rfl, b9⟩
                      have BV := hid (bgo BV.out b9)
                      go_wp2_with fail
                      go_roundw
                      case rel => exact ⟨j + 1, q1, q2 + 1, q3, by omega, (by first | rfl | go_num), (by first | rfl | go_num), (by first | rfl | go_num), (by first | rfl | go_num), by omega, by omega, by omega, HNX, BV⟩
                      case measure => simp [intOf]; omega
                  · have ib : ¬ (y.b : Int) < (e : Int) := by omega
                    have hb : ¬ y.b < e := by omega
                    rcases Nat.lt_or_ge e2 d.b with hq | hq
                    · have iq : True := trivial
                      have HNX := hid (HC.out.l9 HDj.out hsame he2 HG.out hb hq)
                      have hah : aheadB y d = true := ah1 he2 hq
                      have HA := hid (show ∀ w9, Calls Tryd.prog 30 #[.agg #[.int .i64 (y.b : Int), .int .i64 (eI y.e), .int .i64 (y.t : Int), .int .i64 (y.c : Int), .slice Ay y.told.length cy], .agg #[.int .i64 (d.b : Int), .int .i64 (e : Int), .int .i64 (d.t : Int), .int .i64 (d.c : Int), .slice At d.told.length ct]] w9 (fun e9 w8 => e9 = .returned (.bool true) ∧ Below w9.heap.size w9 w8) from fun w9 => by
                        have h := ahead_of y d (.slice Ay y.told.length cy) (.slice At d.told.length ct) w9
                        unfold dgV at h
                        rw [hah, HEE.out] at h
                        exact h)
                      clear hsame hb hah he2 hq
                      go_wp2_with fail
                      refine (HA.out _).mono ?_
                      rintro e9 w9 ⟨rfl, b9⟩
                      have BV := hid (bgo BV.out b9)
                      go_wp2_with fail
                      go_roundw
                      case rel => exact ⟨j + 1, q1 + 1, q2, q3, by omega, (by first | rfl | go_num), (by first | rfl | go_num), (by first | rfl | go_num), (by first | rfl | go_num), by omega, by omega, by omega, HNX, BV⟩
                      case measure => simp [intOf]; omega
                    · have hq : ¬ e2 < d.b := by omega
                      have HNX := hid (HC.out.l10 HDj.out hsame he2 hb hq)
                      have hah : aheadB y d = false := ah0 he2 hq
                      have HA := hid (show ∀ w9, Calls Tryd.prog 30 #[.agg #[.int .i64 (y.b : Int), .int .i64 (eI y.e), .int .i64 (y.t : Int), .int .i64 (y.c : Int), .slice Ay y.told.length cy], .agg #[.int .i64 (d.b : Int), .int .i64 (e : Int), .int .i64 (d.t : Int), .int .i64 (d.c : Int), .slice At d.told.length ct]] w9 (fun e9 w8 => e9 = .returned (.bool false) ∧ Below w9.heap.size w9 w8) from fun w9 => by
                        have h := ahead_of y d (.slice Ay y.told.length cy) (.slice At d.told.length ct) w9
                        unfold dgV at h
                        rw [hah, HEE.out] at h
                        exact h)
                      clear hsame hb hah he2 hq
                      go_wp2_with fail
                      refine (HA.out _).mono ?_
                      rintro e9 w9 ⟨rfl, b9⟩
                      have BV := hid (bgo BV.out b9)
                      go_wp2_with fail
                      go_roundw
                      case rel => exact ⟨j + 1, q1, q2, q3, by omega, (by first | rfl | go_num), (by first | rfl | go_num), (by first | rfl | go_num), (by first | rfl | go_num), by omega, by omega, by omega, HNX, BV⟩
                      case measure => simp [intOf]; omega
          · obtain rfl : j = LD := by omega
            have j2 : ¬ (j : Int) < (j : Int) := by omega
            have XBv := hid (XB0.out.below' BZ.out)
            have HUz := hid (own_below HUq.out BZ.out)
            obtain ⟨bo, rfl, hbo, o0⟩ := told_one HUz.out HTD.out
            have c2 : wr.cell? ⟨bx, 2, none⟩ = some (.int .i64 (d.t : Int)) := XBv.out.cell 2
            have c4 : wr.cell? ⟨bx, 4, none⟩ = some (.slice (some ⟨bo, 0, none⟩) d.told.length ct) := XBv.out.cell 4
            rw [HTD.out] at c4
            replace c4 : wr.cell? ⟨bx, 4, none⟩ = some (.slice (some ⟨bo, 0, none⟩) 1 ct) := c4
            have hdd2 : d.t = 0 ∨ d.t = 1 := by omega
            have HCN := hid (show q1 = (ds.filter (sF d)).length ∧ q2 = (ds.filter (mF d e)).length ∧ q3 = (ds.filter (bF d)).length from by have h := HC.out; have t : ds.take j = ds := List.take_of_length_le (by rw [HDL.out]; exact Nat.le_refl _); exact ⟨by rw [h.sure, t], by rw [h.may, t], by rw [h.bef, t]⟩)
            have BK := hid (bgo BQ.out BZ.out)
            clear HC XBv HUz HUq XB0 hcall htm hel
            rcases hdd2 with hdt | hdt
            · rw [hdt] at c2
              replace c2 : wr.cell? ⟨bx, 2, none⟩ = some (.int .i64 0) := c2
              by_cases hv : v = 0
              · subst hv
                have hf := HQ.out.put k d e HDk.out hdt HEE.out HTD.out
                rw [← HCN.out.1, ← HCN.out.2.1, ← HCN.out.2.2] at hf
                have f1 : ¬ ((q3 : Int) - (q1 : Int) < (N : Int)) := by omega
                have f2 : ¬ ((N : Int) < (q3 : Int) - (q2 : Int)) := by omega
                have r1 : wrap64 ((q3 : Int) - (q1 : Int)) = (q3 : Int) - (q1 : Int) := by unfold wrap64; omega
                clear hdt hf
                go_wp2_with fail
                go_roundw
                case rel => exact ⟨k + 1, by omega, by go_num, BK⟩
                case measure => simp [intOf]; omega
              · have iv : (v == 0) = false := beqF hv
                clear hdt
                go_wp2_with fail
                go_roundw
                case rel => exact ⟨k + 1, by omega, by go_num, BK⟩
                case measure => simp [intOf]; omega
            · rw [hdt] at c2
              replace c2 : wr.cell? ⟨bx, 2, none⟩ = some (.int .i64 1) := c2
              by_cases hv : v = -1
              · subst hv
                have hf := HQ.out.take k d e HDk.out hdt HEE.out HTD.out
                rw [← HCN.out.1, ← HCN.out.2.1, ← HCN.out.2.2] at hf
                have f1 : ¬ ((q3 : Int) < (q1 : Int)) := by omega
                have f2 : ¬ ((q2 : Int) < (q3 : Int)) := by omega
                clear hdt hf
                go_wp2_with fail
                go_roundw
                case rel => exact ⟨k + 1, by omega, by go_num, BK⟩
                case measure => simp [intOf]; omega
              · have iv : (v == -1) = false := beqF hv
                clear hdt
                go_wp2_with fail
                go_roundw
                case rel => exact ⟨k + 1, by omega, by go_num, BK⟩
                case measure => simp [intOf]; omega
    · obtain rfl : k = LD := by omega
      have j1 : ¬ (k : Int) < (k : Int) := by omega
      go_wp2_with fail
      go_ret
      exact ⟨rfl, bgo B03.out BR.out⟩
end Go.Proofs.YtiinnkdhccgelaaDoor
