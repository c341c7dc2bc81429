/-
  BitsOrder: its walk.
-/
import Derived.Test.YtejpcibcllnheaaOrder
namespace Go.Proofs.Ytejpcibcllnheaa
open Go.RowKit
set_option linter.unusedVariables false

set_option maxRecDepth 100000 in
set_option maxHeartbeats 2000000 in
theorem law_bitsOrder (A : Option Addr) (n c : Nat) (ws : List Int) (B : Option Addr) (m d : Nat) (vs : List Int) (C : Option Addr) (p q : Nat) (us : List Int) (w : World)
    (hn : n ≤ c) (hc : c ≤ maxLen) (_ : c * 8 ≤ 140737488351232) (hA : Sl w 1 A n (ints ws)) (hws : ∀ x ∈ ws, -9223372036854775808 ≤ x ∧ x ≤ 9223372036854775807)
    (hm : m ≤ d) (hd : d ≤ maxLen) (_ : d * 8 ≤ 140737488351232) (hB : Sl w 1 B m (ints vs)) (hvs : ∀ x ∈ vs, -9223372036854775808 ≤ x ∧ x ≤ 9223372036854775807)
    (hp : p ≤ q) (hq : q ≤ maxLen) (_ : q * 8 ≤ 140737488351232) (hC : Sl w 1 C p (ints us)) (hus : ∀ x ∈ us, -9223372036854775808 ≤ x ∧ x ≤ 9223372036854775807) :
    Calls Try.prog 9 #[.slice A n c, .slice B m d, .slice C p q] w fun e w' => e = .returned (.bool true) ∧ Below w.heap.size w w' := by
  have HA := hid hA; have HB := hid hB; have HC := hid hC; have HWS := hid hws; have HVS := hid hvs; have HUS := hid hus; clear hA hB hC hws hvs hus
  have hmx : maxLen = 9223372036854775807 := rfl
  obtain ⟨k, hk⟩ : ∃ k, (if (20 : Int) < (n : Int) then (20 : Int) else (n : Int)).toNat = k := ⟨_, rfl⟩
  have hk1 : k ≤ n := by split at hk <;> omega
  have hk2 : k ≤ 20 := by split at hk <;> omega
  have hk3 : k ≤ c := by omega
  have HK := hid hk; clear hk
  have hL : (ws.take k).length = k := by have := HA.out.leni; rw [List.length_take]; omega
  have HSL := hid (HA.out.preG (g := gI) (fun _ => rfl) hk1)
  have HW1 := hid (show ∀ x ∈ ws.take k, -9223372036854775808 ≤ x ∧ x ≤ 9223372036854775807 from fun x hx => HWS.out x (List.mem_of_mem_take hx))
  generalize ws.take k = y1 at *
  obtain ⟨y0, hy0⟩ : ∃ y0, y1 ++ [5] = y0 := ⟨_, rfl⟩
  have hyl : y0.length = k + 1 := by rw [← hy0, List.length_append, hL]; rfl
  have HY0 := hid (show ∀ x ∈ y0, -9223372036854775808 ≤ x ∧ x ≤ 9223372036854775807 by
    intro x hx; rw [← hy0] at hx
    rcases List.mem_append.1 hx with h | h
    · exact HW1.out x h
    · simp at h; subst h; decide)
  have HY := hid hy0; clear hy0
  go_enter Try.func9, Try.ntmps9
  go_wp2_with (first
    | (at_builtin; refine wpList_appY elmI gI_one rfl (.const (.slice none 0 0)) (.tmp 27) rfl (.slice none 0 0) [] rfl (Ow.nil _ _ _ _) y1 y1 (hid (List.nil_append _)) rfl (by rw [HK.out]; exact HSL.out) (by rw [HK.out]; exact hL) (by simp only [maxLen]; omega) (by omega) ?_; intro A3 c3 w3 _ _ HN1 _ _; rw [hL] at HN1)
    | (at_builtin; refine wpList_appY elmI gI_one rfl (.tmp 28) (.tmp 29) rfl (.slice A3 _ c3) y1 rfl (HN1.out.alloc _) [5] y0 HY rfl (Sl.fresh _ #[.int .i64 5] 3 1 1 rfl) rfl (by simp only [maxLen]; omega) (by omega) ?_; intro A4 c4 w4 _ _ HN2 _ _))
  all_goals
    rw [hyl] at HN2
    have HW0 := hid HN2.out.below
    clear HN1 HSL HW1 HY
    refine (fields_of A4 B (k + 1) c4 m d 40 y0 vs w4 (by omega) (by omega) (by omega) HN2.out.sl (HB.out.below HW0.out) HY0.out HVS.out).mono ?_
    rintro e w5 ⟨v1, v2, rfl, ho1, ho2⟩
    obtain ⟨A5, c5, rfl, hx1, hx2⟩ := ho1.form
    obtain ⟨A6, c6, rfl, hx3, hx4⟩ := ho2.form
    have HX := hid ho1; have HWD := hid ho2; clear ho1 ho2
    have HFX := hid (fieldsOf_ok y0 vs 40)
    have hxl : (fieldsOf y0 vs 40).length = k + 1 := by unfold fieldsOf; rw [List.length_mapIdx, List.length_take]; omega
    generalize fieldsOf y0 vs 40 = x at *
    have hwl : (widthsOf x).length = k + 1 := by unfold widthsOf; rw [List.length_map]; exact hxl
    have HFW := hid (show ∀ u ∈ widthsOf x, -9223372036854775808 ≤ u ∧ u ≤ 9223372036854775807 by
      intro u hu
      obtain ⟨f, hf, rfl⟩ := List.mem_map.1 hu
      have := (HFX.out f hf).1; omega)
    have HEQ := hid (fieldsOf_widths y0 us 40 x (fun f hf => (HFX.out f hf).1) (by omega))
    have HFY := hid (fieldsOf_ok (widthsOf x) us 40)
    have hyl2 : (fieldsOf (widthsOf x) us 40).length = k + 1 := by unfold fieldsOf; rw [List.length_mapIdx, List.length_take]; omega
    rw [hwl] at HWD; rw [hxl] at HX
    go_wp2_with fail
    refine (fields_of A6 C (k + 1) c6 p q 40 (widthsOf x) us w5 (by omega) (by omega) (by omega) HWD.out.sl (HC.out.below (bgo HW0.out HX.out.below)) HFW.out HUS.out).mono ?_
    rintro e w6 ⟨v1, v2, rfl, ho1, ho2⟩
    obtain ⟨A7, c7, rfl, hx5, hx6⟩ := ho1.form
    have HYY := hid ho1; have HW6 := hid ho2.below; clear ho1 ho2
    generalize fieldsOf (widthsOf x) us 40 = y at *
    rw [hyl2] at HYY
    go_wp2_with fail
    clear hx1 hx3 hx5
    obtain ⟨b5, rfl⟩ := HX.out.ad (by omega)
    obtain ⟨b7, rfl⟩ := HYY.out.ad (by omega)
    have hbe : w5.heap.size ≤ b7 := HYY.out.ge (by omega)
    have HX6 := hid (HX.out.step HW6.out)
    go_loopw [11] (fun i wr => ∃ j : Nat, j ≤ k + 1 ∧ i = .int .i64 j ∧ Ow w5 wr 41 2 gF (.slice (some ⟨b7, 0, none⟩) (k + 1) c7) y) (fun i _ => k + 1 - (intOf i).toNat)
    case atStart => exact ⟨0, Nat.zero_le _, rfl, HYY.out⟩
    case round =>
      obtain ⟨j, hj, rfl, ho⟩ := hrel
      have HO := hid ho; clear ho
      by_cases hlt : j < k + 1
      · obtain ⟨⟨p1, u1⟩, hy1⟩ : ∃ f, y[j]? = some f := ⟨_, List.getElem?_eq_getElem (by omega)⟩
        obtain ⟨⟨p2, u2⟩, hy2⟩ : ∃ f, x[j]? = some f := ⟨_, List.getElem?_eq_getElem (by omega)⟩
        have hpe : p1 = p2 := by
          have := congrArg (fun l => l[j]?) HEQ.out
          simp only [List.getElem?_map, hy1, hy2] at this
          simpa using this
        subst hpe
        have hfy := HFY.out _ (List.mem_of_getElem? hy1)
        obtain ⟨hf1, hf2⟩ := hfy
        dsimp only at hf1 hf2
        have HF2 := hid hf2; clear hf2
        have HXr := hid (HX.out.step HO.out.below)
        obtain ⟨c0, _⟩ := HXr.out.cellG (g := gF) (j := 0) (fun _ => rfl) hy2 (u := .int .i64 (p1 : Int)) rfl
        obtain ⟨d0, e0⟩ := HO.out.cellG (g := gF) (j := 0) (fun _ => rfl) hy1 (u := .int .i64 (p1 : Int)) rfl
        have hO1 := HO.out.setG (g := gF) (j := 0) (u := .int .i64 (p1 : Int)) (y := (p1, u1)) (fun _ => rfl) hy1 (by decide) rfl
        have hset : y.set j (p1, u1) = y := by
          obtain ⟨q1, q2⟩ := List.getElem?_eq_some_iff.1 hy1
          rw [← q2, List.set_getElem_self]
        rw [hset] at hO1
        simp only [Nat.add_zero] at c0 d0 e0 hO1
        have HO1 := hid hO1; clear hO1
        have i1 : (j : Int) < ((k + 1 : Nat) : Int) := by omega
        go_wp2_with fail
        generalize wr.setCell ⟨b7, j * 2, none⟩ (.int .i64 (p1 : Int)) = wa at *
        clear c0 d0 e0 HXr hset
        have HXa := hid (HX.out.step HO1.out.below)
        obtain ⟨c0, _⟩ := HXa.out.cellG (g := gF) (j := 0) (fun _ => rfl) hy2 (u := .int .i64 (p1 : Int)) rfl
        obtain ⟨d0, e0⟩ := HO1.out.cellG (g := gF) (j := 1) (fun _ => rfl) hy1 (u := .int .i64 (u1 : Int)) rfl
        have hO1 := HO1.out.setG (g := gF) (j := 1) (u := .int .i64 (u1 : Int)) (y := (p1, u1)) (fun _ => rfl) hy1 (by decide) rfl
        have hset : y.set j (p1, u1) = y := by
          obtain ⟨q1, q2⟩ := List.getElem?_eq_some_iff.1 hy1
          rw [← q2, List.set_getElem_self]
        rw [hset] at hO1
        simp only [Nat.add_zero] at c0
        have HO2 := hid hO1; clear hO1
        have hp2 : 2 ^ p1 ≤ 2 ^ 60 := Nat.pow_le_pow_right (by decide) hf1
        have hp1 : 1 ≤ 2 ^ p1 := Nat.pow_pos (by decide)
        have e2 : ((2 : Int) ^ p1) = ((2 ^ p1 : Nat) : Int) := by rw [Int.natCast_pow]; rfl
        have EW : IntKind.i64.wrap ((2 : Int) ^ p1) = (2 : Int) ^ p1 := IntWalk.i64_in _ (by rw [e2]; omega)
        have EM : IntKind.i64.wrap ((2 : Int) ^ p1 - 1) = (2 : Int) ^ p1 - 1 := IntWalk.i64_in _ (by rw [e2]; omega)
        have EA : bits .and .i64 (u1 : Int) ((2 : Int) ^ p1 - 1) = (u1 : Int) := by
          have := HF2.out
          rw [e2, show ((2 ^ p1 : Nat) : Int) - 1 = ((2 ^ p1 - 1 : Nat) : Int) by omega, i64_and _ _ (by omega) (by omega), Nat.and_two_pow_sub_one_eq_mod, Nat.mod_eq_of_lt this]
        clear e2 hp1 hp2 hset
        go_region
        go_wp2
        go_roundw
        case rel => exact ⟨j + 1, by omega, by go_num, HO2.out.drew⟩
        case measure => simp [intOf]; omega
      · have HXr := hid (HX.out.step HO.out.below)
        have hnl : ¬ ((j : Int) < ((k + 1 : Nat) : Int)) := by omega
        go_wp2_with fail
        refine (bits_write _ _ _ x wr (by omega) HFX.out HXr.out.sl).mono ?_
        rintro e w7 ⟨va, rfl, hoa⟩
        obtain ⟨A8, c8, rfl, hx5, hx6⟩ := hoa.form
        have HPA := hid hoa; clear hoa
        go_wp2_with fail
        refine (bits_write _ _ _ y w7 (by omega) HFY.out (HO.out.step HPA.out.below).sl).mono ?_
        rintro e w8 ⟨va, rfl, hoa⟩
        obtain ⟨A9, c9, rfl, hx5, hx6⟩ := hoa.form
        have HPB := hid hoa; clear hoa
        have HLAW := hid (order_law x y HEQ.out.symm (fun f hf => (HFX.out f hf).2) (fun f hf => (HFY.out f hf).2))
        have hle : (pack (fieldBits x)).length = (pack (fieldBits y)).length := by
          rw [pack_len, pack_len, fieldBits_len_eq x y HEQ.out.symm]
        have hlx : (pack (fieldBits x)).length ≤ 9000 := by
          have := fieldBits_len x (fun f hf => (HFX.out f hf).1)
          rw [pack_len]; omega
        generalize pack (fieldBits x) = X at *
        generalize pack (fieldBits y) = Y at *
        obtain ⟨L, hL1⟩ : ∃ L, X.length = L := ⟨_, rfl⟩
        have hL2 : Y.length = L := by omega
        rw [hL1] at HPA hlx; rw [hL2] at HPB
        clear hle
        have hne1 : ((L : Int) != (L : Int)) = false := by simp
        have hne2 : (((k + 1 : Nat) : Int) != ((k + 1 : Nat) : Int)) = false := by simp
        go_wp2_with fail
        have HXe := hid (HX.out.step (bgo HO.out.below (bgo HPA.out.below HPB.out.below)))
        have HYe := hid (HO.out.step (bgo HPA.out.below HPB.out.below))
        have HXbl := hid (show (x.map Prod.snd).length = k + 1 by rw [List.length_map]; exact hxl)
        have HYbl := hid (show (y.map Prod.snd).length = k + 1 by rw [List.length_map]; exact hyl2)
        have HPAe := hid (HPA.out.step HPB.out.below)
        have HW8 := hid (bgo (bgo HW0.out HX.out.below) (bgo HO.out.below (bgo HPA.out.below HPB.out.below)))
        go_loopw [16, 17] (fun g i wr' => ∃ t : Nat, t ≤ k + 1 ∧ i = .int .i64 ((t : Int) - 1) ∧ g = .int .i64 (lexs ((x.map Prod.snd).drop t) ((y.map Prod.snd).drop t)) ∧ Below w8.heap.size w8 wr') (fun _ i _ => (intOf i + 1).toNat)
        case atStart =>
          refine ⟨k + 1, Nat.le_refl _, by rw [show ((k + 1 : Nat) : Int) - 1 = (k : Int) by omega], ?_, bnil w8⟩
          rw [List.drop_eq_nil_of_le (by rw [HXbl.out]; omega), List.drop_eq_nil_of_le (by rw [HYbl.out]; omega)]; rfl
        case round =>
          obtain ⟨t, ht, rfl, rfl, hb⟩ := hrel
          have HBr := hid hb; clear hb
          match t, ht with
          | t + 1, ht =>
            obtain ⟨⟨p1, u1⟩, hy1⟩ : ∃ f, y[t]? = some f := ⟨_, List.getElem?_eq_getElem (by omega)⟩
            obtain ⟨⟨p2, u2⟩, hy2⟩ : ∃ f, x[t]? = some f := ⟨_, List.getElem?_eq_getElem (by omega)⟩
            obtain ⟨c0, _⟩ := (HXe.out.step HBr.out).cellG (g := gF) (j := 1) (fun _ => rfl) hy2 (u := .int .i64 (u2 : Int)) rfl
            obtain ⟨d0, _⟩ := (HYe.out.step HBr.out).cellG (g := gF) (j := 1) (fun _ => rfl) hy1 (u := .int .i64 (u1 : Int)) rfl
            have HD := hid (lexs_drop (x.map Prod.snd) (y.map Prod.snd) t u2 u1 (by rw [List.getElem?_map, hy2]; rfl) (by rw [List.getElem?_map, hy1]; rfl))
            have hu1 : u1 < 9223372036854775808 := by
              obtain ⟨f1, f2⟩ := HFY.out _ (List.mem_of_getElem? hy1)
              exact Nat.lt_of_lt_of_le f2 (Nat.le_trans (Nat.pow_le_pow_right (by decide) f1) (by decide))
            clear hy1 hy2
            generalize lexs ((x.map Prod.snd).drop (t + 1)) ((y.map Prod.snd).drop (t + 1)) = z at *
            rw [show ((t + 1 : Nat) : Int) - 1 = (t : Int) by omega]
            have i1 : (0 : Int) ≤ (t : Int) := by omega
            have i2 : (t : Int) < ((k + 1 : Nat) : Int) := by omega
            rcases Nat.lt_trichotomy u2 u1 with h | h | h
            · have e1 : ((u2 : Int) != (u1 : Int)) = true := by simp; omega
              have e2 : (u2 : Int) < (u1 : Int) := by omega
              go_wp2_with fail
              go_quiet (fail)
              go_wp2_with fail
              go_quiet (fail)
              go_wp2
              go_roundw
              case rel => exact ⟨t, by omega, rfl, by rw [HD.out, if_neg (by omega), if_pos h], below_drewN HBr.out _⟩
              case measure => simp [intOf] <;> omega
            · subst h
              have e1 : ((u2 : Int) != (u2 : Int)) = false := by simp
              go_wp2_with fail
              go_quiet (fail)
              go_wp2
              go_roundw
              case rel => exact ⟨t, by omega, rfl, by first | rw [HD.out, if_pos rfl] | rw [HD.out, if_pos trivial], below_drewN HBr.out _⟩
              case measure => simp [intOf] <;> omega
            · have e1 : ((u2 : Int) != (u1 : Int)) = true := by simp; omega
              have e2 : ¬ (u2 : Int) < (u1 : Int) := by omega
              go_wp2_with fail
              go_quiet (fail)
              go_wp2_with fail
              go_quiet (fail)
              go_wp2
              go_roundw
              case rel => exact ⟨t, by omega, rfl, by rw [HD.out, if_neg (by omega), if_neg (by omega)], below_drewN HBr.out _⟩
              case measure => simp [intOf] <;> omega
          | 0, ht =>
            rw [List.drop_zero, List.drop_zero]
            have HLz := HLAW
            generalize lexs (x.map Prod.snd) (y.map Prod.snd) = z0 at *
            rw [show ((0 : Nat) : Int) - 1 = -1 from rfl]
            go_wp2_with fail
            have HXbl := hid (show (X.map UInt8.toNat).length = L by rw [List.length_map]; exact hL1)
            have HYbl := hid (show (Y.map UInt8.toNat).length = L by rw [List.length_map]; exact hL2)
            go_loopw [18, 19] (fun g i wr' => ∃ t : Nat, t ≤ L ∧ i = .int .i64 ((t : Int) - 1) ∧ g = .int .i64 (lexs ((X.map UInt8.toNat).drop t) ((Y.map UInt8.toNat).drop t)) ∧ Below w8.heap.size w8 wr') (fun _ i _ => (intOf i + 1).toNat)
            case atStart =>
              refine ⟨L, Nat.le_refl _, rfl, ?_, HBr.out⟩
              rw [List.drop_eq_nil_of_le (by rw [HXbl.out]; omega), List.drop_eq_nil_of_le (by rw [HYbl.out]; omega)]; rfl
            case round =>
              clear HBr
              obtain ⟨t, ht, rfl, rfl, hb⟩ := hrel
              have HBr := hid hb; clear hb
              match t, ht with
              | t + 1, ht =>
                obtain ⟨ad1, b2, rfl, hy2, c0⟩ := (HPAe.out.step HBr.out).sl.at_ (k := t) (by omega)
                obtain ⟨ad2, b1, rfl, hy1, d0⟩ := (HPB.out.step HBr.out).sl.at_ (k := t) (by omega)
                have HD := hid (lexs_drop (X.map UInt8.toNat) (Y.map UInt8.toNat) t b2.toNat b1.toNat (by rw [List.getElem?_map, hy2]; rfl) (by rw [List.getElem?_map, hy1]; rfl))
                clear hy1 hy2
                generalize lexs ((X.map UInt8.toNat).drop (t + 1)) ((Y.map UInt8.toNat).drop (t + 1)) = z at *
                rw [show ((t + 1 : Nat) : Int) - 1 = (t : Int) by omega]
                have i1 : (0 : Int) ≤ (t : Int) := by omega
                have i2 : (t : Int) < (L : Int) := by omega
                rcases Nat.lt_trichotomy b2.toNat b1.toNat with h | h | h
                · have e1 : ((b2.toNat : Int) != (b1.toNat : Int)) = true := by simp; omega
                  have e2 : (b2.toNat : Int) < (b1.toNat : Int) := by omega
                  go_wp2_with fail
                  go_quiet (fail)
                  go_wp2_with fail
                  go_quiet (fail)
                  go_wp2
                  go_roundw
                  case rel => exact ⟨t, by omega, rfl, by rw [HD.out, if_neg (by omega), if_pos h], below_drewN HBr.out _⟩
                  case measure => simp [intOf] <;> omega
                · obtain rfl := UInt8.toNat_inj.1 h
                  have e1 : ((b2.toNat : Int) != (b2.toNat : Int)) = false := by simp
                  go_wp2_with fail
                  go_quiet (fail)
                  go_wp2
                  go_roundw
                  case rel => exact ⟨t, by omega, rfl, by first | rw [HD.out, if_pos rfl] | rw [HD.out, if_pos trivial], below_drewN HBr.out _⟩
                  case measure => simp [intOf] <;> omega
                · have e1 : ((b2.toNat : Int) != (b1.toNat : Int)) = true := by simp; omega
                  have e2 : ¬ (b2.toNat : Int) < (b1.toNat : Int) := by omega
                  go_wp2_with fail
                  go_quiet (fail)
                  go_wp2_with fail
                  go_quiet (fail)
                  go_wp2
                  go_roundw
                  case rel => exact ⟨t, by omega, rfl, by rw [HD.out, if_neg (by omega), if_neg (by omega)], below_drewN HBr.out _⟩
                  case measure => simp [intOf] <;> omega
              | 0, ht =>
                rw [List.drop_zero, List.drop_zero, HLz.out]
                rw [show ((0 : Nat) : Int) - 1 = -1 from rfl]
                go_wp2_with fail
                refine (bits_write _ _ _ [(3, 5)] _ (by omega) (by decide) (Sl.fresh _ #[.int .i64 3, .int .i64 5] 41 2 1 rfl)).mono ?_
                rintro e w10 ⟨va, rfl, hoa⟩
                rw [show pack (fieldBits [(3, 5)]) = [160] by decide] at hoa
                obtain ⟨A10, c10, rfl, hx7, hx8⟩ := hoa.form
                obtain ⟨b10, rfl⟩ := hoa.ad (by decide)
                obtain ⟨c0, _⟩ := hoa.cellG (g := gB) (i := 0) (j := 0) (fun _ => rfl) (x := 160) rfl rfl
                have HEND := hid (bgo (bnew (bgo HW8.out HBr.out) _) hoa.below)
                have ez : (z0 == z0) = true := by simp
                go_wp2_with fail
                go_ret
                exact ⟨rfl, HEND.out⟩
end Go.Proofs.Ytejpcibcllnheaa
