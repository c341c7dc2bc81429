/-
  VmSteps: its walk.
-/
import Derived.Test.YtljdnbdmfhcmpaaDoorVmPre
namespace Go.Proofs.YtljdnbdmfhcmpaaDoor
open Go.RowKit
set_option linter.unusedVariables false
set_option maxHeartbeats 4000000 in
set_option maxRecDepth 100000 in
theorem law_vmSteps (A : Option Addr) (n c : Nat) (ls : List Op5) (B : Option Addr) (p q : Nat) (ms : List Int) (D : Option Addr) (r s : Nat) (ds : List Int) (a b : Int) (w : World)
    (hn : n ≤ c) (hc : c ≤ maxLen) (_ : c * 40 ≤ 140737488351232) (hA : Sl w 5 A n (ls.flatMap gO)) (hls : ∀ x ∈ ls, LineOk x)
    (hp : p ≤ q) (hq : q ≤ maxLen) (_ : q * 8 ≤ 140737488351232) (hB : Sl w 1 B p (ints ms)) (hms : ∀ x ∈ ms, -9223372036854775808 ≤ x ∧ x ≤ 9223372036854775807)
    (hr : r ≤ s) (hs : s ≤ maxLen) (_ : s * 8 ≤ 140737488351232) (hD : Sl w 1 D r (ints ds)) (hds : ∀ x ∈ ds, -9223372036854775808 ≤ x ∧ x ≤ 9223372036854775807)
    (ha : -9223372036854775808 ≤ a) (ha1 : a ≤ 9223372036854775807) (hb : -9223372036854775808 ≤ b) (hb1 : b ≤ 9223372036854775807) (hT : STab w) :
    Calls Tryd.prog 3 #[.slice A n c, .slice B p q, .slice D r s, .int .i64 a, .int .i64 b] w fun e w' => e = .returned (.bool true) ∧ Below w.heap.size w w' := by
  have HA := hid (Lines.mk hA hls); have HB := hid hB; have HD := hid hD; have HMS := hid hms; have HDS := hid hds; have HT := hid hT
  have HML := hid hB.leni; have HDL := hid hD.leni
  clear hA hls hB hD hms hds hT
  have HQ := hid hq; have HS := hid hs; clear hq hs
  go_enter Tryd.func3, Tryd.ntmps3
  go_wp2_with fail
  refine (code_of A n c 40 ls w hn hc (by decide) HA.out).mono ?_
  rintro e w1 ⟨v, rfl, ho⟩
  obtain ⟨Ac, cc, rfl, hcc, _⟩ := ho.form
  have HC := hid (CodeAt.of ho)
  have B1 := hid ho.below
  have hcl : (codeOf ls 40).length ≤ 40 := by rw [codeOf_len]; omega
  clear ho
  generalize codeOf ls 40 = code at *
  obtain ⟨nc, hnc⟩ : ∃ nc, code.length = nc := ⟨_, rfl⟩
  rw [hnc] at HC hcc hcl ⊢
  have HNC := hid hnc; clear hnc
  go_upto_block 0 with fail
  go_cut [12] (fun v wr => ∃ (A1 : Option Addr) (c1 : Nat), v = .slice A1 ((ms.take 4).map md9).length c1 ∧ Hid (Ow w1 wr 3 1 gI (.slice A1 ((ms.take 4).map md9).length c1) ((ms.take 4).map md9)))
  case first =>
    go_wp2_with fail
    go_loopw [12, 13] (fun v i wr => ∃ (k : Nat) (A1 : Option Addr) (c1 : Nat), k ≤ 4 ∧ k ≤ p ∧ i = .int .i64 k ∧ v = .slice A1 k c1 ∧ Hid (Ow w1 wr 3 1 gI (.slice A1 k c1) ((ms.take k).map md9))) (fun _ i _ => 4 - (intOf i).toNat)
    case atStart => exact ⟨0, none, 0, Nat.zero_le _, Nat.zero_le _, rfl, rfl, hid (Ow.nil _ _ _ _)⟩
    case round =>
      obtain ⟨k, A1, c1, hk, hkp, rfl, rfl, HO⟩ := hrel
      have HKL := hid (show ((ms.take k).map md9).length = k by rw [List.length_map, List.length_take, HML.out]; omega)
      by_cases h4 : k < 4
      · have i1 : (k : Int) < 4 := by omega
        by_cases hlt : k < p
        · have i2 : (k : Int) < (p : Int) := by omega
          obtain ⟨ad, x, rfl, hx, cx⟩ := ((HB.out.below B1.out).below HO.out.below).ati hlt
          obtain ⟨x0, x1⟩ := HMS.out x (List.mem_of_getElem? hx)
          have HY := hid (show (ms.take k).map md9 ++ [x % 9] = (ms.take (k + 1)).map md9 by rw [take_next hx, List.map_append]; rfl)
          have HYL := hid (show ((ms.take (k + 1)).map md9).length = k + 1 by rw [List.length_map, List.length_take, HML.out]; omega)
          clear hx
          go_wp2_with fail
          refine (picked0 x 9 _ (by decide) x0 x1 (by decide)).mono ?_
          rintro e w9 ⟨rfl, rfl⟩
          go_wp2_with (at_builtin; refine wpList_appY elmI gI_one rfl (.tmp 42) (.tmp 48) rfl (.slice A1 k c1) _ rfl (HO.out.alloc _) [x % 9] _ HY rfl (Sl.fresh wr #[_] 3 1 1 rfl) rfl (by rw [HYL.out]; simp only [maxLen]; omega) (by rw [HYL.out]; omega) ?_; intro A4 c4 w4 hc4 hc5 HN1 _ _)
          go_roundw
          case rel => exact ⟨k + 1, A4, c4, by omega, by omega, by go_num, by rw [HML.out, show min (k + 1) p = k + 1 by omega], hid (by have h1 := HN1.out; rw [HYL.out] at h1; exact h1)⟩
          case measure => simp [intOf]; omega
        · have i2 : ¬ (k : Int) < (p : Int) := by omega
          have E := hid (show (ms.take k).map md9 = (ms.take 4).map md9 by rw [List.take_of_length_le (by rw [HML.out]; omega), List.take_of_length_le (by rw [HML.out]; omega)])
          go_wp2
          go_meet
          exact ⟨A1, c1, by rw [← E.out, HKL.out], hid (by rw [← E.out, HKL.out]; exact HO.out)⟩
      · obtain rfl : k = 4 := by omega
        go_wp2
        go_meet
        exact ⟨A1, c1, by rw [HKL.out], hid (by rw [HKL.out]; exact HO.out)⟩
  case rest =>
    obtain ⟨A1, c1, rfl, HO1⟩ := hcut
    obtain ⟨w2, hw2⟩ : ∃ w2, w2 = wc := ⟨_, rfl⟩
    subst hw2
    have hxl : ((ms.take 4).map md9).length ≤ 4 := by rw [List.length_map, List.length_take]; omega
    generalize (ms.take 4).map md9 = xs at *
    obtain ⟨nx, hnx⟩ : ∃ nx, xs.length = nx := ⟨_, rfl⟩
    rw [hnx] at HO1 hxl ⊢
    have HNX := hid hnx; clear hnx
    have hmk := mk6
    go_upto_block 2 with fail
    clear hmk
    obtain ⟨b2, hb2⟩ : ∃ b2, w2.heap.size = b2 := ⟨_, rfl⟩
    have HO0 := hid (ints_ow w2)
    rw [hb2] at HO0 ⊢
    have HB2 := hid hb2; clear hb2
    go_cut [14] (fun v wr => v = .slice (some ⟨b2, 0, none⟩) 6 6 ∧ Hid (Ow w2 wr 3 1 gI (.slice (some ⟨b2, 0, none⟩) 6 6) (padk (ds.map md9) (min 6 r))))
    case first =>
      go_wp2_with fail
      go_loopw [15] (fun i wr => ∃ (k : Nat), k ≤ 6 ∧ k ≤ r ∧ i = .int .i64 k ∧ Hid (Ow w2 wr 3 1 gI (.slice (some ⟨b2, 0, none⟩) 6 6) (padk (ds.map md9) k))) (fun i _ => 6 - (intOf i).toNat)
      case atStart => exact ⟨0, Nat.zero_le _, Nat.zero_le _, rfl, by rw [padk_zero]; exact HO0⟩
      case round =>
        obtain ⟨k, hk, hkr, rfl, HO⟩ := hrel
        by_cases h6 : k < 6
        · have i1 : (k : Int) < 6 := by omega
          by_cases hlt : k < r
          · have i2 : (k : Int) < (r : Int) := by omega
            obtain ⟨ad, x, rfl, hx, cx⟩ := (((HD.out.below B1.out).below HO1.out.below).below HO.out.below).ati hlt
            obtain ⟨x0, x1⟩ := HDS.out x (List.mem_of_getElem? hx)
            have hp0 := padk_len (ds.map md9) k (by rw [List.length_map, HDL.out]; omega) (by omega)
            obtain ⟨old, hold⟩ : ∃ old, (padk (ds.map md9) k)[k]? = some old := ⟨_, List.getElem?_eq_getElem (by omega)⟩
            obtain ⟨cy, fy⟩ := HO.out.cellI hold
            have HN := hid (HO.out.setI (show k < (padk (ds.map md9) k).length by omega) (x % 9))
            have HE := hid (padk_step (ds.map md9) k (x % 9) (by rw [List.getElem?_map, hx]; rfl) h6)
            clear hx hp0 hold
            go_wp2_with fail
            refine (picked0 x 9 _ (by decide) x0 x1 (by decide)).mono ?_
            rintro e w9 ⟨rfl, rfl⟩
            go_wp2
            go_roundw
            case rel => exact ⟨k + 1, by omega, by omega, by go_num, by rw [HE.out]; exact HN⟩
            case measure => simp [intOf]; omega
          · have i2 : ¬ (k : Int) < (r : Int) := by omega
            have E := hid (show k = min 6 r by omega)
            go_wp2
            go_meet
            exact ⟨rfl, by rw [← E.out]; exact HO⟩
        · obtain rfl : k = 6 := by omega
          have E := hid (show 6 = min 6 r by omega)
          go_wp2
          go_meet
          exact ⟨rfl, by rw [← E.out]; exact HO⟩
    case rest =>
      obtain ⟨rfl, HO2⟩ := hcut
      have hul : (padk (ds.map md9) (min 6 r)).length = 6 := padk_len _ _ (by rw [List.length_map, HDL.out]; omega) (by omega)
      generalize padk (ds.map md9) (min 6 r) = us at *
      have HUL := hid hul; clear hul HO0
      have hx0 := Int.emod_nonneg a (show (300 : Int) ≠ 0 by decide)
      have hx1 := Int.emod_lt_of_pos a (show (0 : Int) < 300 by decide)
      have hy0 := Int.emod_nonneg b (show (300 : Int) ≠ 0 by decide)
      have hy1 := Int.emod_lt_of_pos b (show (0 : Int) < 300 by decide)
      obtain ⟨X, hX⟩ : ∃ X : Nat, a % 300 = (X : Int) := ⟨(a % 300).toNat, by omega⟩
      obtain ⟨Y, hY⟩ : ∃ Y : Nat, b % 300 = (Y : Int) := ⟨(b % 300).toNat, by omega⟩
      have hXl : X < 300 := by omega
      have hYl : Y < 300 := by omega
      have HX := hid hX; have HY := hid hY
      clear hx0 hx1 hy0 hy1 hX hY
      go_wp2_with fail
      refine (picked0 a 300 _ (by decide) ha ha1 (by decide)).mono ?_
      rintro e w9 ⟨rfl, rfl⟩
      rw [HX.out]
      go_wp2_with fail
      refine (picked0 b 300 _ (by decide) hb hb1 (by decide)).mono ?_
      rintro e w9 ⟨rfl, rfl⟩
      rw [HY.out]
      have BW := hid (show Below w.heap.size w wc from bgo (bgo B1.out HO1.out.below) HO2.out.below)
      have C2 := hid ((HC.out.below HO1.out.below).below HO2.out.below)
      have X2 := hid (HO1.out.step HO2.out.below)
      obtain ⟨Z, hZ⟩ : ∃ Z, X + Y = Z := ⟨_, rfl⟩
      have hZl : Z < 600 := by omega
      have eXY : (X : Int) + (Y : Int) = (Z : Int) := by omega
      have HZ := hid hZ; clear hZ
      obtain ⟨u1, u2, u3, u4, u5, u6⟩ := vres_more code xs us X Y
      rw [HZ.out] at u1 u3 u4 u6
      obtain ⟨N1, hN1⟩ : ∃ N1, vcount code X (vbegin code.length xs, us) = N1 := ⟨_, rfl⟩
      obtain ⟨N2, hN2⟩ : ∃ N2, vcount code Z (vbegin code.length xs, us) = N2 := ⟨_, rfl⟩
      obtain ⟨S1, hS1⟩ : ∃ S1, vres code xs us X = S1 := ⟨_, rfl⟩
      obtain ⟨S2, hS2⟩ : ∃ S2, vres code xs us Z = S2 := ⟨_, rfl⟩
      obtain ⟨m1, hm1⟩ : ∃ m1, S1.1.told.length = m1 := ⟨_, rfl⟩
      obtain ⟨m2, hm2⟩ : ∃ m2, S2.1.told.length = m2 := ⟨_, rfl⟩
      obtain ⟨q1, hq1⟩ : ∃ q1, S1.2.length = q1 := ⟨_, rfl⟩
      obtain ⟨q2, hq2⟩ : ∃ q2, S2.2.length = q2 := ⟨_, rfl⟩
      obtain ⟨e1, he1⟩ : ∃ e1, verr S1.1 = e1 := ⟨_, rfl⟩
      obtain ⟨e2, he2⟩ : ∃ e2, verr S2.1 = e2 := ⟨_, rfl⟩
      rw [hS1, hN1, he1] at u5 u6
      rw [hS1, hS2] at u1
      rw [hS2, hN2] at u6
      rw [hN1] at u2 u4
      rw [hN2] at u3 u4
      obtain ⟨tl, htl⟩ := u1
      have L12 := hid (show (ints S2.1.told).take (m1 * 1) = ints S1.1.told by rw [Nat.mul_one, ints_take, htl, ← hm1, List.take_left' rfl])
      have hm12 : m1 ≤ m2 := by rw [← hm1, ← hm2, htl, List.length_append]; omega
      clear htl
      have HU : Hid ((e1 = 11 ∧ N1 = X) ∨ (e1 ≠ 11 ∧ S2 = S1 ∧ N2 = N1)) := hid (by
        cases h : S1.1.over
        · exact .inl (u5 h)
        · exact .inr (u6 h))
      clear u5 u6
      have HN1 := hid hN1; have HN2 := hid hN2; have HS1 := hid hS1; have HS2 := hid hS2; have HM1 := hid hm1; have HM2 := hid hm2; have HQ1 := hid hq1; have HQ2 := hid hq2; have HE1 := hid he1; have HE2 := hid he2
      clear hN1 hN2 hS1 hS2 hm1 hm2 hq1 hq2 he1 he2
      go_wp2_with fail
      refine (vm_runL S1 N1 m1 q1 e1 HS1 HN1 HM1 HQ1 HE1 (by omega) (by omega) (by omega) (by omega) (HT.out.below BW.out) C2.out X2.out.sl HO2.out.sl).mono ?_
      rintro e w4 ⟨B4, c4, D4, d4, rfl, g1, g2, g3, g4, O1, P1⟩
      have C4 := hid (C2.out.below O1.out.below); have X4 := hid (X2.out.step O1.out.below); have U4 := hid (HO2.out.step O1.out.below); have BW4 := hid (bgo BW.out O1.out.below)
      go_wp2_with fail
      refine (vm_runL S2 N2 m2 q2 e2 HS2 HN2 HM2 HQ2 HE2 (by omega) (by omega) (by omega) (by omega) (HT.out.below BW4.out) C4.out X4.out.sl U4.out.sl).mono ?_
      rintro e w5 ⟨B5, c5, D5, d5, rfl, g5, g6, g7, g8, O2, P2⟩
      have C5 := hid (C4.out.below O2.out.below); have X5 := hid (X4.out.step O2.out.below); have U5 := hid (U4.out.step O2.out.below); have BW5 := hid (bgo BW4.out O2.out.below); have O15 := hid (O1.out.step O2.out.below)
      go_wp2_with fail
      refine (vm_runL S2 N2 m2 q2 e2 HS2 HN2 HM2 HQ2 HE2 (by omega) (by omega) (by omega) (by omega) (HT.out.below BW5.out) C5.out X5.out.sl U5.out.sl).mono ?_
      rintro e w6 ⟨B6, c6, D6, d6, rfl, h5, h6, h7, h8, O3, P3⟩
      have BW6 := hid (bgo BW5.out O3.out.below); have O16 := hid (O15.out.step O3.out.below); have O26 := hid (O2.out.step O3.out.below); have P26 := hid (P2.out.step O3.out.below)
      clear C2 C4 C5 X2 X4 X5 U4 U5 BW4 BW5 O15 O2 P2 O1 P1 HO1 HO2 HC
      go_wp2_with fail
      refine (vm_sure w6 (HT.out.below BW6.out)).mono ?_
      rintro e w7 ⟨rfl, b7⟩
      have O17 := hid (O16.out.step b7); have O27 := hid (O26.out.step b7); have P27 := hid (P26.out.step b7); have O37 := hid (O3.out.step b7); have P37 := hid (P3.out.step b7); have BW7 := hid (bgo BW6.out b7)
      clear O16 O26 P26 O3 P3 b7
      have j1 : ¬ ((m2 : Int) < (m1 : Int)) := by omega
      have j2 : (m1 : Int) ≤ (m2 : Int) := by omega
      have j3 : ¬ ((X : Int) < (N1 : Int)) := by omega
      have j4 : ¬ ((Z : Int) < (N2 : Int)) := by omega
      have j5 : ¬ ((N2 : Int) < (N1 : Int)) := by omega
      go_wp2_with fail
      refine (same_ints B4 B5 m1 c4 c5 S1.1.told w7 (by omega) O17.out.sl (by have h := O27.out.sl.pre (k := m1) hm12; rw [← L12.out]; exact h)).mono ?_
      rintro e w8 ⟨rfl, b8⟩
      have O28 := hid (O27.out.step b8); have P28 := hid (P27.out.step b8); have O38 := hid (O37.out.step b8); have P38 := hid (P37.out.step b8); have BW8 := hid (bgo BW7.out b8)
      have O18 := hid (O17.out.step b8)
      clear O27 P27 O37 P37 O17 b8
      go_wp2_with fail
      refine (same_ints B5 B6 m2 c5 c6 S2.1.told w8 (by omega) O28.out.sl O38.out.sl).mono ?_
      rintro e w9 ⟨rfl, b9⟩
      have P29 := hid (P28.out.step b9); have P39 := hid (P38.out.step b9); have BW9 := hid (bgo BW8.out b9); have O29 := hid (O28.out.step b9); have O19 := hid (O18.out.step b9)
      clear O28 P28 O38 P38 O18 b9
      go_wp2_with fail
      refine (same_ints D5 D6 q2 d5 d6 S2.2 w9 (by omega) P29.out.sl P39.out.sl).mono ?_
      rintro e w10 ⟨rfl, b10⟩
      have BW10 := hid (bgo BW9.out b10); have O30 := hid (O29.out.step b10); have O20 := hid (O19.out.step b10)
      clear P29 P39 b10 O29 O19
      have k1 : ((N2 : Int) != (N2 : Int)) = false := by simp
      have k2 : (e2 != e2) = false := by simp
      rcases HU.out with ⟨f1, f2⟩ | ⟨f1, f2, f3⟩
      · subst f1; subst f2
        go_wp2
        go_ret
        exact ⟨by simp, BW10.out⟩
      · have f4 : (e1 == 11) = false := by simp [f1]
        subst f2; subst f3
        have he : e1 = e2 := by rw [← HE1.out, ← HE2.out]
        have hm : m1 = m2 := by rw [← HM1.out, ← HM2.out]
        subst he; subst hm
        go_wp2_with fail
        refine (same_ints B4 B5 m1 c4 c5 S2.1.told w10 (by omega) O20.out.sl O30.out.sl).mono ?_
        rintro e w11 ⟨rfl, b11⟩
        go_wp2
        go_ret
        exact ⟨by simp, bgo BW10.out b11⟩
end Go.Proofs.YtljdnbdmfhcmpaaDoor
