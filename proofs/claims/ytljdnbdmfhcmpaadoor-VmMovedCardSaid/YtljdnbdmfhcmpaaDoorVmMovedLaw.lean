/-
  VmMoved: its walk.
-/
import Derived.Test.YtljdnbdmfhcmpaaDoorVmMoved
namespace Go.Proofs.YtljdnbdmfhcmpaaDoor
open Go.RowKit
set_option linter.unusedVariables false
set_option maxHeartbeats 4000000 in
set_option maxRecDepth 100000 in
theorem law_vmMoved (A : Option Addr) (n c : Nat) (ls : List Op5) (B : Option Addr) (p q : Nat) (ms : List Int) (D : Option Addr) (r s : Nat) (ds : List Int) (a b : Int) (w : World)
    (hn : n ≤ c) (hc : c ≤ maxLen) (_ : c * 40 ≤ 140737488351232) (hA : Sl w 5 A n (ls.flatMap gO)) (hls : ∀ x ∈ ls, LineOk x)
    (hp : p ≤ q) (hq : q ≤ maxLen) (_ : q * 8 ≤ 140737488351232) (hB : Sl w 1 B p (ints ms)) (hms : ∀ x ∈ ms, -9223372036854775808 ≤ x ∧ x ≤ 9223372036854775807)
    (hr : r ≤ s) (hs : s ≤ maxLen) (_ : s * 8 ≤ 140737488351232) (hD : Sl w 1 D r (ints ds)) (hds : ∀ x ∈ ds, -9223372036854775808 ≤ x ∧ x ≤ 9223372036854775807)
    (ha : -9223372036854775808 ≤ a) (ha1 : a ≤ 9223372036854775807) (hb : -9223372036854775808 ≤ b) (hb1 : b ≤ 9223372036854775807) (hT : STab w) :
    Calls Tryd.prog 6 #[.slice A n c, .slice B p q, .slice D r s, .int .i64 a, .int .i64 b] w fun e w' => e = .returned (.bool true) ∧ Below w.heap.size w w' := by
  have HA := hid (Lines.mk hA hls); have HB := hid hB; have HD := hid hD; have HMS := hid hms; have HT := hid hT
  have HML := hid hB.leni; have HDL := hid hD.leni
  clear hA hls hB hD hms hds hT
  have HQ := hid hq; have HS := hid hs; clear hq hs
  have hx0 := Int.emod_nonneg a (show (100 : Int) ≠ 0 by decide)
  have hx1 := Int.emod_lt_of_pos a (show (0 : Int) < 100 by decide)
  have hy0 := Int.emod_nonneg b (show (600 : Int) ≠ 0 by decide)
  have hy1 := Int.emod_lt_of_pos b (show (0 : Int) < 600 by decide)
  obtain ⟨K, hK⟩ : ∃ K : Nat, a % 100 = (K : Int) := ⟨(a % 100).toNat, by omega⟩
  obtain ⟨X, hX⟩ : ∃ X : Nat, b % 600 = (X : Int) := ⟨(b % 600).toNat, by omega⟩
  have hKl : K < 100 := by omega
  have hXl : X < 600 := by omega
  have HK := hid hK; have HX := hid hX
  clear hx0 hx1 hy0 hy1 hK hX
  go_enter Tryd.func6, Tryd.ntmps6
  go_wp2_with fail
  refine (code_of A n c 40 ls w hn hc (by decide) HA.out).mono ?_
  rintro e w1 ⟨v, rfl, ho⟩
  obtain ⟨Ac, cc, rfl, hcc, _⟩ := ho.form
  have HC := hid (CodeAt.of ho)
  have HCD := hid (codeOf_d ls 40)
  have B1 := hid ho.below
  have hcl : (codeOf ls 40).length ≤ 40 := by rw [codeOf_len]; omega
  clear ho
  generalize codeOf ls 40 = code at *
  obtain ⟨nc, hnc⟩ : ∃ nc, code.length = nc := ⟨_, rfl⟩
  rw [hnc] at HC hcc hcl ⊢
  have HNC := hid hnc; clear hnc
  go_wp2_with fail
  refine (picked0 a 100 _ (by decide) ha ha1 (by decide)).mono ?_
  rintro e w9 ⟨rfl, rfl⟩
  rw [HK.out]
  go_upto_block 0 with fail
  go_cut [13] (fun v wr => ∃ (A1 : Option Addr) (c1 : Nat), v = .slice A1 ((ms.take 4).map md9).length c1 ∧ Hid (Ow w1 wr 3 1 gI (.slice A1 ((ms.take 4).map md9).length c1) ((ms.take 4).map md9)))
  case first =>
    go_wp2_with fail
    go_loopw [13, 14] (fun v i wr => ∃ (k : Nat) (A1 : Option Addr) (c1 : Nat), k ≤ 4 ∧ k ≤ p ∧ i = .int .i64 k ∧ v = .slice A1 k c1 ∧ Hid (Ow w1 wr 3 1 gI (.slice A1 k c1) ((ms.take k).map md9))) (fun _ i _ => 4 - (intOf i).toNat)
    case atStart => exact ⟨0, none, 0, Nat.zero_le _, Nat.zero_le _, rfl, rfl, hid (Ow.nil _ _ _ _)⟩
    case round =>
      obtain ⟨k, A1, c1, hk, hkp, rfl, rfl, HO⟩ := hrel
      have HKL := hid (show ((ms.take k).map md9).length = k by rw [List.length_map, List.length_take, HML.out]; omega)
      by_cases h4 : k < 4
      · have i1 : (k : Int) < 4 := by omega
        by_cases hlt : k < p
        · have i2 : (k : Int) < (p : Int) := by omega
          obtain ⟨ad, x, rfl, hx, cx⟩ := ((HB.out.below B1.out).below HO.out.below).ati hlt
          obtain ⟨x0, x1⟩ := HMS.out x (List.mem_of_getElem? hx)
          have HY := hid (show (ms.take k).map md9 ++ [x % 9] = (ms.take (k + 1)).map md9 by rw [take_next hx, List.map_append]; rfl)
          have HYL := hid (show ((ms.take (k + 1)).map md9).length = k + 1 by rw [List.length_map, List.length_take, HML.out]; omega)
          clear hx
          go_wp2_with fail
          refine (picked0 x 9 _ (by decide) x0 x1 (by decide)).mono ?_
          rintro e w9 ⟨rfl, rfl⟩
          go_wp2_with (at_builtin; refine wpList_appY elmI gI_one rfl (.tmp 41) (.tmp 47) rfl (.slice A1 k c1) _ rfl (HO.out.alloc _) [x % 9] _ HY rfl (Sl.fresh wr #[_] 3 1 1 rfl) rfl (by rw [HYL.out]; simp only [maxLen]; omega) (by rw [HYL.out]; omega) ?_; intro A4 c4 w4 hc4 hc5 HN1 _ _)
          go_roundw
          case rel => exact ⟨k + 1, A4, c4, by omega, by omega, by go_num, by rw [HML.out, show min (k + 1) p = k + 1 by omega], hid (by have h1 := HN1.out; rw [HYL.out] at h1; exact h1)⟩
          case measure => simp [intOf]; omega
        · have i2 : ¬ (k : Int) < (p : Int) := by omega
          have E := hid (show (ms.take k).map md9 = (ms.take 4).map md9 by rw [List.take_of_length_le (by rw [HML.out]; omega), List.take_of_length_le (by rw [HML.out]; omega)])
          go_wp2
          go_meet
          exact ⟨A1, c1, by rw [← E.out, HKL.out], hid (by rw [← E.out, HKL.out]; exact HO.out)⟩
      · obtain rfl : k = 4 := by omega
        go_wp2
        go_meet
        exact ⟨A1, c1, by rw [HKL.out], hid (by rw [HKL.out]; exact HO.out)⟩
  case rest =>
    obtain ⟨A1, c1, rfl, HO1⟩ := hcut
    obtain ⟨w2, hw2⟩ : ∃ w2, w2 = wc := ⟨_, rfl⟩
    subst hw2
    have hxl : ((ms.take 4).map md9).length ≤ 4 := by rw [List.length_map, List.length_take]; omega
    generalize (ms.take 4).map md9 = xs at *
    obtain ⟨nx, hnx⟩ : ∃ nx, xs.length = nx := ⟨_, rfl⟩
    rw [hnx] at HO1 hxl ⊢
    have HNX := hid hnx; clear hnx
    have hmk := mk6
    go_upto_block 2 with fail
    clear hmk
    obtain ⟨b2, hb2⟩ : ∃ b2, w2.heap.size = b2 := ⟨_, rfl⟩
    have HO0 := hid (ints_ow w2)
    rw [hb2] at HO0 ⊢
    have HB2 := hid hb2; clear hb2
    go_cut [15] (fun v wr => v = .slice (some ⟨b2, 0, none⟩) 6 6 ∧ Hid (Ow w2 wr 3 1 gI (.slice (some ⟨b2, 0, none⟩) 6 6) (padk ds (min 6 r))))
    case first =>
      go_wp2_with fail
      go_loopw [16] (fun i wr => ∃ (k : Nat), k ≤ 6 ∧ k ≤ r ∧ i = .int .i64 k ∧ Hid (Ow w2 wr 3 1 gI (.slice (some ⟨b2, 0, none⟩) 6 6) (padk ds k))) (fun i _ => 6 - (intOf i).toNat)
      case atStart => exact ⟨0, Nat.zero_le _, Nat.zero_le _, rfl, by rw [padk_zero]; exact HO0⟩
      case round =>
        obtain ⟨k, hk, hkr, rfl, HO⟩ := hrel
        by_cases h6 : k < 6
        · have i1 : (k : Int) < 6 := by omega
          by_cases hlt : k < r
          · have i2 : (k : Int) < (r : Int) := by omega
            obtain ⟨ad, x, rfl, hx, cx⟩ := (((HD.out.below B1.out).below HO1.out.below).below HO.out.below).ati hlt
            have hp0 := padk_len ds k (by rw [HDL.out]; omega) (by omega)
            obtain ⟨old, hold⟩ : ∃ old, (padk ds k)[k]? = some old := ⟨_, List.getElem?_eq_getElem (by omega)⟩
            obtain ⟨cy, fy⟩ := HO.out.cellI hold
            have HN := hid (HO.out.setI (show k < (padk ds k).length by omega) x)
            have HE := hid (padk_step ds k x hx h6)
            clear hx hp0 hold
            go_wp2
            go_roundw
            case rel => exact ⟨k + 1, by omega, by omega, by go_num, by rw [HE.out]; exact HN⟩
            case measure => simp [intOf]; omega
          · have i2 : ¬ (k : Int) < (r : Int) := by omega
            have E := hid (show k = min 6 r by omega)
            go_wp2
            go_meet
            exact ⟨rfl, by rw [← E.out]; exact HO⟩
        · obtain rfl : k = 6 := by omega
          have E := hid (show 6 = min 6 r by omega)
          go_wp2
          go_meet
          exact ⟨rfl, by rw [← E.out]; exact HO⟩
    case rest =>
      obtain ⟨rfl, HO2⟩ := hcut
      obtain ⟨w3, hw3⟩ : ∃ w3, w3 = wc := ⟨_, rfl⟩
      subst hw3
      have hul : (padk ds (min 6 r)).length = 6 := padk_len _ _ (by rw [HDL.out]; omega) (by omega)
      generalize padk ds (min 6 r) = us at *
      have HUL := hid hul
      clear hul HO0
      have BW := hid (show Below w.heap.size w w3 from bgo (bgo B1.out HO1.out.below) HO2.out.below)
      have hmk := run_make_row' (P := Tryd.prog) 23 3 (.int .i64 0) 8 Tryd.underlying23 (by kernel_rfl) rfl .i64 .i64 K (by omega) (by omega)
      have HF0 := made_ow w3 K (by omega)
      go_upto_block 4 with fail
      clear hmk
      obtain ⟨b3, hb3⟩ : ∃ b3, w3.heap.size = b3 := ⟨_, rfl⟩
      rw [hb3] at HF0 ⊢
      have HB3 := hid hb3; have HF := hid HF0; clear hb3 HF0
      go_cut [17] (fun v wr => v = .slice (some ⟨b3, 0, none⟩) K K ∧ Hid (Ow w3 wr 3 1 gI (.slice (some ⟨b3, 0, none⟩) K K) (ups K K)))
      case first =>
        go_wp2_with fail
        go_loopw [18] (fun i wr => ∃ (k : Nat), k ≤ K ∧ i = .int .i64 k ∧ Hid (Ow w3 wr 3 1 gI (.slice (some ⟨b3, 0, none⟩) K K) (ups k K))) (fun i _ => K - (intOf i).toNat)
        case atStart => exact ⟨0, Nat.zero_le _, rfl, by rw [ups_zero]; exact HF⟩
        case round =>
          obtain ⟨k, hk, rfl, HO⟩ := hrel
          by_cases hlt : k < K
          · have i1 : (k : Int) < (K : Int) := by omega
            have hp0 := ups_len k K hk
            obtain ⟨old, hold⟩ : ∃ old, (ups k K)[k]? = some old := ⟨_, List.getElem?_eq_getElem (by omega)⟩
            obtain ⟨cy, fy⟩ := HO.out.cellI hold
            have HN := hid (HO.out.setI (show k < (ups k K).length by omega) (k : Int))
            have HE := hid (ups_step k K hlt)
            clear hp0 hold
            go_wp2
            go_roundw
            case rel => exact ⟨k + 1, by omega, by go_num, by rw [HE.out]; exact HN⟩
            case measure => simp [intOf]; omega
          · obtain rfl : k = K := by omega
            go_wp2
            go_meet
            exact ⟨rfl, HO⟩
      case rest =>
        obtain ⟨rfl, HO3⟩ := hcut
        obtain ⟨w4, hw4⟩ : ∃ w4, w4 = wc := ⟨_, rfl⟩
        subst hw4
        have hfl : (ups K K).length = K := ups_len K K (Nat.le_refl _)
        generalize ups K K = fs at *
        have HFL := hid hfl
        clear hfl HF
        have BW4 := hid (bgo BW.out HO3.out.below)
        have HL0 := hid (show ([] : List Int) ++ us = us from List.nil_append us)
        have ON := hid (Ow.nil w4 3 1 gI)
        have U4 := hid (HO2.out.step HO3.out.below)
        have X4 := hid ((HO1.out.step HO2.out.below).step HO3.out.below)
        have C4 := hid (((HC.out.below HO1.out.below).below HO2.out.below).below HO3.out.below)
        go_wp2_with (at_builtin; refine wpList_appY elmI gI_one rfl (.const (.slice none 0 0)) (.tmp 81) rfl (.slice none 0 0) [] rfl ON.out us us HL0 rfl U4.out.sl HUL.out (by rw [HUL.out]; simp [maxLen]) (by rw [HUL.out]; decide) ?_; intro A4 c4 w5 hc4 hc5 HN1 _ _)
        refine (picked0 b 600 _ (by decide) hb hb1 (by decide)).mono ?_
        rintro e w9 ⟨rfl, rfl⟩
        rw [HX.out]
        obtain ⟨v1, v2⟩ := vres_d code HCD.out xs us (by rw [HNX.out]; omega) HUL.out X
        obtain ⟨y1, y2⟩ := vres_move code HCD.out xs us fs (by rw [HNX.out]; omega) HUL.out (by rw [HFL.out]; exact hKl) X
        rw [HFL.out] at y1 y2
        obtain ⟨N1, hN1⟩ : ∃ N1, vcount code X (vbegin code.length xs, us) = N1 := ⟨_, rfl⟩
        rw [hN1] at y2
        obtain ⟨S1, hS1⟩ : ∃ S1, vres code xs us X = S1 := ⟨_, rfl⟩
        rw [hS1] at v1 v2 y1
        obtain ⟨m1, hm1⟩ : ∃ m1, S1.1.told.length = m1 := ⟨_, rfl⟩
        obtain ⟨e1, he1⟩ : ∃ e1, verr S1.1 = e1 := ⟨_, rfl⟩
        obtain ⟨K6, hK6⟩ : ∃ K6, K + 6 = K6 := ⟨_, rfl⟩
        have HK6 := hid hK6
        have HQ2 := hid (show (S1.1, fs ++ S1.2).2.length = K6 by rw [List.length_append, HFL.out, v2, hK6])
        have HN1' := hid hN1; have HS1 := hid hS1; have HM1 := hid hm1; have HE1 := hid he1; have HQ1 := hid v2; have HY1 := hid y1; have HY2 := hid y2
        have HM2 : Hid ((S1.1, fs ++ S1.2).1.told.length = m1) := hid hm1
        have HE2 : Hid (verr (S1.1, fs ++ S1.2).1 = e1) := hid he1
        clear v1 v2 hN1 hS1 hm1 he1 y1 y2
        have eK6 : (K : Int) + 6 = (K6 : Int) := by omega
        clear hK6
        have B5 := hid (bgo BW4.out HN1.out.below)
        have U5 := hid (U4.out.step HN1.out.below); have X5 := hid (X4.out.step HN1.out.below); have C5 := hid (C4.out.below HN1.out.below); have F5 := hid (HO3.out.step HN1.out.below)
        go_wp2_with fail
        refine (vm_runL S1 N1 m1 6 e1 HS1 HN1' HM1 HQ1 HE1 (by omega) (by omega) (by rw [HUL.out]; decide) (by omega) (HT.out.below B5.out) C5.out X5.out.sl HN1.out.sl).mono ?_
        rintro e w6 ⟨B6, c6, D6, d6, rfl, g1, g2, g3, g4, O6, P6⟩
        have B6' := hid (bgo B5.out O6.out.below)
        have U6 := hid (U5.out.step O6.out.below); have X6 := hid (X5.out.step O6.out.below); have C6 := hid (C5.out.below O6.out.below); have F6 := hid (F5.out.step O6.out.below)
        go_wp2_with fail
        refine (code_moved Ac nc cc code K w6 hcl hKl C6.out HCD.out).mono ?_
        rintro e w7 ⟨v7, rfl, ho7⟩
        obtain ⟨Am, cm, rfl, hcm, _⟩ := ho7.form
        have hml : (code.map (mv K)).length = nc := by rw [List.length_map, HNC.out]
        have C7 := hid (show CodeAt w7 Am nc (code.map (mv K)) from ⟨by have h := ho7.sl; rw [hml] at h; exact h, fun o ho => by obtain ⟨o1, h1, rfl⟩ := List.mem_map.1 ho; exact mv_sh _ _ _ (HC.out.sh o1 h1)⟩)
        rw [hml] at hcm ⊢
        have O7m := hid ho7.below
        clear ho7 hml
        have B7 := hid (bgo B6'.out O7m.out)
        have U7 := hid (U6.out.step O7m.out); have X7 := hid (X6.out.step O7m.out); have F7 := hid (F6.out.step O7m.out)
        have O7 := hid (O6.out.step O7m.out); have P7 := hid (P6.out.step O7m.out)
        have HL1 := hid (show ([] : List Int) ++ fs = fs from List.nil_append fs)
        have ON7 := hid (Ow.nil w7 3 1 gI)
        obtain ⟨fu, hfu⟩ : ∃ fu, fs ++ us = fu := ⟨_, rfl⟩
        have hful : fu.length = K6 := by rw [← hfu, List.length_append, HFL.out, HUL.out, HK6.out]
        have HFU := hid hfu; have HFUL := hid hful
        clear hfu hful
        go_wp2_with (first
          | (at_builtin; refine wpList_appY elmI gI_one rfl (.const (.slice none 0 0)) (.tmp 95) rfl (.slice none 0 0) [] rfl ON7.out fs fs HL1 rfl F7.out.sl HFL.out (by rw [HFL.out]; simp only [maxLen]; omega) (by rw [HFL.out]; omega) ?_; intro A8 c8 w8 hc8 hc8' HN2 _ _)
          | (at_builtin; refine wpList_appY elmI gI_one rfl (.tmp 96) (.tmp 97) rfl (.slice A8 fs.length c8) fs rfl HN2.out us fu HFU rfl (U7.out.sl.below (Ow.below HN2.out)) HUL.out (by rw [HFUL.out]; simp only [maxLen]; omega) (by rw [HFUL.out]; omega) ?_; intro A9 c9 w9 hc9 hc9' HN3 _ _))
        refine (picked0 b 600 _ (by decide) hb hb1 (by decide)).mono ?_
        rintro e w9 ⟨rfl, rfl⟩
        rw [HX.out]
        have B9 := hid (bgo B7.out HN3.out.below)
        have X9 := hid (X7.out.step HN3.out.below); have F9 := hid (F7.out.step HN3.out.below)
        have O9 := hid (O7.out.step HN3.out.below); have P9 := hid (P7.out.step HN3.out.below)
        have C9 := hid (C7.out.below HN3.out.below)
        clear C7 U7 X7 F7 O7 P7 U6 X6 C6 F6 U5 X5 C5 F5 O6 P6 U4 X4 C4
        go_wp2_with fail
        refine (vm_runL (S1.1, fs ++ S1.2) N1 m1 K6 e1 (hid (by rw [← HFU.out]; exact HY1.out)) (hid (by rw [← HFU.out]; exact HY2.out)) HM2 HQ2 HE2 (by omega) (by omega) (by rw [HFUL.out]; omega) (by omega) (HT.out.below B9.out) C9.out X9.out.sl HN3.out.sl).mono ?_
        rintro e w10 ⟨B10, c10, D10, d10, rfl, h1, h2, h3, h4, O10, P10⟩
        obtain ⟨bd, hbd⟩ : ∃ bd, D10 = some ⟨bd, 0, none⟩ := by
          obtain ⟨b', _, hA, _⟩ := P10.out.row (by rw [HQ2.out]; omega)
          exact ⟨b', hA⟩
        subst hbd
        have B10 := hid (bgo B9.out O10.out.below)
        have F10 := hid (F9.out.step O10.out.below); have O9' := hid (O9.out.step O10.out.below); have P9' := hid (P9.out.step O10.out.below)
        clear F9 O9 P9 C9 X9
        go_wp2_with fail
        refine (vm_sure w10 (HT.out.below B10.out)).mono ?_
        rintro e w11 ⟨rfl, b11⟩
        have B11 := hid (bgo B10.out b11)
        have F11 := hid (F10.out.step b11); have O11 := hid (O9'.out.step b11); have P11 := hid (P9'.out.step b11); have O21 := hid (O10.out.step b11); have P21 := hid (P10.out.step b11)
        clear F10 O9' P9' O10 P10 b11
        go_wp2_with fail
        refine (same_ints B6 _ m1 c6 c10 S1.1.told w11 (by omega) O11.out.sl O21.out.sl).mono ?_
        rintro e w12 ⟨rfl, b12⟩
        have B12 := hid (bgo B11.out b12)
        have F12 := hid (F11.out.step b12); have P12 := hid (P11.out.step b12); have P22 := hid (P21.out.step b12)
        clear F11 O11 P11 O21 P21 b12
        have kk1 : (K : Int) ≤ (K6 : Int) := by omega
        have kk2 : ¬ (d10 = K) := by omega
        go_wp2_with fail
        have e6 : K6 - K = 6 := by omega
        rw [e6]
        have HD1 := hid (show Sl w12 1 (some ⟨bd, K, none⟩) 6 (ints S1.2) by
          have h := P22.out.sl.cut (k := K) (cap := d10) (by omega) h3
          rw [if_neg kk2, e6, Nat.mul_one, Option.map_some, ad_at] at h
          rw [show ints S1.2 = (((S1.1, fs ++ S1.2) : Th × List Int).2.flatMap gI).drop K from by
            show ints S1.2 = (ints (fs ++ S1.2)).drop K
            rw [ints_drop, ← HFL.out, List.drop_left' rfl]]
          exact h)
        refine (same_ints D6 _ 6 d6 (d10 - K) S1.2 w12 (by decide) P12.out.sl HD1.out).mono ?_
        rintro e w13 ⟨rfl, b13⟩
        have B13 := hid (bgo B12.out b13)
        have F13 := hid (F12.out.step b13); have P23 := hid (P22.out.step b13)
        clear F12 P12 P22 b13 HD1
        have HD2 := hid (show Sl w13 1 (some ⟨bd, 0, none⟩) K (ints fs) by
          have h := P23.out.sl.pre (k := K) (by omega)
          rw [Nat.mul_one] at h
          rw [show ints fs = (((S1.1, fs ++ S1.2) : Th × List Int).2.flatMap gI).take K from by
            show ints fs = (ints (fs ++ S1.2)).take K
            rw [ints_take, ← HFL.out, List.take_left' rfl]]
          exact h)
        go_wp2_with fail
        refine (same_ints _ _ K K d10 fs w13 (by omega) F13.out.sl HD2.out).mono ?_
        rintro e w14 ⟨rfl, b14⟩
        go_wp2
        go_ret
        exact ⟨by simp, bgo B13.out b14⟩
end Go.Proofs.YtljdnbdmfhcmpaaDoor
