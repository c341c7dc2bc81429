/-
  CountsAll: its walk.
-/
import Derived.Test.YtpoaomjpbjcmbaaQuant3
namespace Go.Proofs.Ytpoaomjpbjcmbaa
open Go.RowKit
set_option linter.unusedVariables false
theorem cts_in (bs vs : List Int) (hb : bs.length ≤ 15) (hv : vs.length ≤ 1000) : CntIn (cts bs vs) ∧ ∀ x ∈ cts bs vs, x ≤ 1000 := by
  have h := cts_bd bs vs
  refine ⟨⟨by rw [cts_len]; omega, by rw [cts_len]; omega, fun x hx => ?_⟩, fun x hx => ?_⟩
  · have := h x hx; omega
  · have := h x hx; omega
set_option maxHeartbeats 2000000 in
set_option maxRecDepth 100000 in
theorem law_countsAll (A : Option Addr) (n c : Nat) (l : List Int) (B : Option Addr) (p q : Nat) (ms : List Int) (D : Option Addr) (r t : Nat) (ds : List Int) (w : World)
    (hn : n ≤ c) (hc : c ≤ maxLen) (_ : c * 8 ≤ 140737488351232) (hA : Sl w 1 A n (ints l)) (hls : ∀ x ∈ l, -9223372036854775808 ≤ x ∧ x ≤ 9223372036854775807)
    (hp : p ≤ q) (hq : q ≤ maxLen) (_ : q * 8 ≤ 140737488351232) (hB : Sl w 1 B p (ints ms)) (hms : ∀ x ∈ ms, -9223372036854775808 ≤ x ∧ x ≤ 9223372036854775807)
    (hr : r ≤ t) (ht : t ≤ maxLen) (_ : t * 8 ≤ 140737488351232) (hD : Sl w 1 D r (ints ds)) (hds : ∀ x ∈ ds, -9223372036854775808 ≤ x ∧ x ≤ 9223372036854775807) :
    Calls Try.prog 4 #[.slice A n c, .slice B p q, .slice D r t] w fun e w' => e = .returned (.bool true) ∧ Below w.heap.size w w' := by
  have HA := hid hA; have HB := hid hB; have HD := hid hD; have HLS := hid hls; have HMS := hid hms; have HDS := hid hds
  clear hA hB hD hls hms hds
  go_enter Try.func4, Try.ntmps4
  go_wp2_with fail
  refine (bounds_of D r t ds w hr ht HD.out HDS.out).mono ?_
  rintro e w1 ⟨v1, rfl, ho1⟩
  have HBI := hid (bdsOf_in ds)
  have hbl := (bdsOf_in ds).len
  obtain ⟨bs, hbs⟩ : ∃ bs, bdsOf ds = bs := ⟨_, rfl⟩
  rw [hbs] at ho1 HBI hbl
  obtain ⟨A1, c1, rfl, hc1, hc2⟩ := ho1.form
  obtain ⟨b, hb⟩ : ∃ b, bs.length = b := ⟨_, rfl⟩
  rw [hb] at ho1 hc1 hbl ⊢
  have HO1 := hid ho1; have HBL := hid hb
  clear ho1 hbs hb
  go_wp2_with fail
  refine (values_of A n c l 50 w1 hn hc (HA.out.below HO1.out.below) HLS.out (by omega)).mono ?_
  rintro e w2 ⟨v2, rfl, ho2⟩
  have hxl := valsOf_len l 50
  obtain ⟨x, hx⟩ : ∃ x, valsOf l 50 = x := ⟨_, rfl⟩
  rw [hx] at ho2 hxl
  obtain ⟨A2, c2, rfl, hc3, hc4⟩ := ho2.form
  obtain ⟨xn, hxn⟩ : ∃ b, x.length = b := ⟨_, rfl⟩
  rw [hxn] at ho2 hc3 hxl ⊢
  have HO2 := hid ho2; have HXL := hid hxn
  have hx51 : xn ≤ 51 := by omega
  clear ho2 hx hxn hxl
  go_wp2_with fail
  refine (values_of B p q ms 50 w2 hp hq (HB.out.below (bgo HO1.out.below HO2.out.below)) HMS.out (by omega)).mono ?_
  rintro e w3 ⟨v3, rfl, ho3⟩
  have hyl := valsOf_len ms 50
  obtain ⟨y, hy⟩ : ∃ x, valsOf ms 50 = x := ⟨_, rfl⟩
  rw [hy] at ho3 hyl
  obtain ⟨A3, c3, rfl, hc5, hc6⟩ := ho3.form
  obtain ⟨yn, hyn⟩ : ∃ b, y.length = b := ⟨_, rfl⟩
  rw [hyn] at ho3 hc5 hyl ⊢
  have HO3 := hid ho3; have HYL := hid hyn
  have hy51 : yn ≤ 51 := by omega
  clear ho3 hy hyn hyl
  have HBS3 := hid (HO1.out.step (bgo HO2.out.below HO3.out.below))
  have HX3 := hid (HO2.out.step HO3.out.below)
  go_wp2_with fail
  refine (quant_Counts A2 A1 xn c2 b c1 x bs w3 (by omega) HX3.out.sl HBS3.out.sl HBI.out).mono ?_
  rintro e w4 ⟨v4, rfl, ho4⟩
  obtain ⟨A4, c4, rfl, hc7, hc8⟩ := ho4.form
  have HO4 := hid ho4
  rw [cts_len, HBL.out] at HO4 hc7 ⊢
  clear ho4
  have HY4 := hid (HO3.out.step HO4.out.below)
  have HBS4 := hid (HBS3.out.step HO4.out.below)
  go_wp2_with fail
  refine (quant_Counts A3 A1 yn c3 b c1 y bs w4 (by omega) HY4.out.sl HBS4.out.sl HBI.out).mono ?_
  rintro e w5 ⟨v5, rfl, ho5⟩
  obtain ⟨A5, c5, rfl, hc9, hc10⟩ := ho5.form
  have HO5 := hid ho5
  rw [cts_len, HBL.out] at HO5 hc9 ⊢
  clear ho5
  have HX5 := hid (HX3.out.step (bgo HO4.out.below HO5.out.below))
  have HY5 := hid (HY4.out.step HO5.out.below)
  have HBS5 := hid (HBS4.out.step HO5.out.below)
  obtain ⟨z, hz⟩ : ∃ z, x ++ y = z := ⟨_, rfl⟩
  have hzl : z.length = xn + yn := by rw [← hz, List.length_append, HXL.out, HYL.out]
  have HZ := hid hz; have HZL := hid hzl
  clear hz hzl
  go_wp2_with (first
    | (at_builtin; refine wpList_appY elmI gI_one rfl (.const (.slice none 0 0)) (.tmp 39) rfl (.slice none 0 0) [] rfl (Ow.nil _ _ _ _) x x (hid (List.nil_append _)) rfl HX5.out.sl HXL.out (by rw [HXL.out]; simp only [maxLen]; omega) (by rw [HXL.out]; omega) ?_; intro A6 c6 w6 hc11 hc12 HN1 _ _)
    | (at_builtin; refine wpList_appY elmI gI_one rfl (.tmp 40) (.tmp 41) rfl (.slice A6 _ c6) x rfl HN1.out y z HZ rfl (HY5.out.sl.below HN1.out.below) HYL.out (by rw [HZL.out]; simp only [maxLen]; omega) (by rw [HZL.out]; omega) ?_; intro A7 c7 w7 hc13 hc14 HN2 _ _))
  rw [HZL.out] at HN2 hc13 ⊢
  have HBS7 := hid (HBS5.out.step HN2.out.below)
  refine (quant_Counts A7 A1 (xn + yn) c7 b c1 z bs w7 (by omega) HN2.out.sl HBS7.out.sl HBI.out).mono ?_
  rintro e w8 ⟨v8, rfl, ho8⟩
  obtain ⟨A8, c8, rfl, hc15, hc16⟩ := ho8.form
  have HO8 := hid ho8
  rw [cts_len, HBL.out] at HO8 hc15 ⊢
  clear ho8
  have HC8 := hid (HO4.out.step (bgo HO5.out.below (bgo HN2.out.below HO8.out.below)))
  have HD8 := hid (HO5.out.step (bgo HN2.out.below HO8.out.below))
  obtain ⟨k1, k2⟩ := cts_in bs x (by rw [HBL.out]; exact hbl) (by rw [HXL.out]; omega)
  obtain ⟨k3, k4⟩ := cts_in bs y (by rw [HBL.out]; exact hbl) (by rw [HYL.out]; omega)
  obtain ⟨k5, k6⟩ := cts_in bs z (by rw [HBL.out]; exact hbl) (by rw [HZL.out]; omega)
  have k7 : List.zipWith (· + ·) (cts bs x) (cts bs y) = cts bs z := by rw [cts_app, HZ.out]
  have HJ := hid (quant_Join A4 A5 (b + 1) c4 c5 (cts bs x) (cts bs y) w8 HC8.out.sl HD8.out.sl k1 k3 (by rw [k7]; exact k5) k2 k4)
  rw [k7] at HJ
  clear k1 k2 k3 k4 k5 k6 k7
  go_wp2_with fail
  refine HJ.out.mono ?_
  rintro e w9 ⟨v9, rfl, ho9⟩
  obtain ⟨A9, c9, rfl, hc17, hc18⟩ := ho9.form
  have HO9 := hid ho9
  rw [cts_len, HBL.out] at HO9 hc17 ⊢
  clear ho9
  have HA9 := hid (HO8.out.step HO9.out.below)
  have HC9 := hid (HC8.out.step HO9.out.below)
  have e1 : (((b : Int) + 1) != ((b : Int) + 1)) = false := by simp
  go_wp2_with fail
  refine (same_intsQ A9 A8 (b + 1) _ _ (cts bs z) w9 (by omega) HO9.out.sl HA9.out.sl).mono ?_
  rintro e w10 ⟨rfl, hb10⟩
  have HC10 := hid (HC9.out.step hb10)
  have HEND := hid (bgo HO1.out.below (bgo HO2.out.below (bgo HO3.out.below (bgo HO4.out.below (bgo HO5.out.below (bgo HN2.out.below (bgo HO8.out.below (bgo HO9.out.below hb10))))))))
  clear hb10
  have HSUM := hid (cts_sum bs x)
  have HBD := hid (cts_bd bs x)
  have HCLEN := hid (cts_len bs x)
  rw [HXL.out] at HSUM HBD
  rw [HBL.out] at HCLEN
  obtain ⟨cc, hcc⟩ : ∃ cc, cts bs x = cc := ⟨_, rfl⟩
  rw [hcc] at HC10 HSUM HBD HCLEN
  clear hcc
  go_wp2_with fail
  go_loopw [18, 19] (fun s i wr => ∃ (k : Nat) (S : Int), k ≤ b + 1 ∧ i = .int .i64 k ∧ s = .int .i64 S ∧ Hid (S = (cc.take k).sum) ∧ 0 ≤ S ∧ S ≤ 1000 * (k : Int) ∧ Below w10.heap.size w10 wr) (fun _ i _ => b + 1 - (intOf i).toNat)
  case atStart => exact ⟨0, 0, Nat.zero_le _, rfl, rfl, hid rfl, Int.le_refl _, by simp, bnil _⟩
  case round =>
    obtain ⟨k, S, hk, rfl, rfl, HS, hs1, hs2, hb⟩ := hrel
    have HBr := hid hb; clear hb
    by_cases hlt : k < b + 1
    · obtain ⟨ad, u, rfl, hu, c0⟩ := (HC10.out.step HBr.out).sl.ati hlt
      obtain ⟨u1, u2⟩ := HBD.out u (List.mem_of_getElem? hu)
      have HS2 := hid (show S + u = (cc.take (k + 1)).sum by rw [take_next hu, List.sum_append_int, HS.out]; simp)
      have i1 : (k : Int) < (b : Int) + 1 := by omega
      have i2 : ¬ u < 0 := by omega
      have i3 : ¬ (xn : Int) < u := by omega
      have e2 : wrap64 (S + u) = S + u := IntWalk.wrap64_in _ ⟨by omega, by omega⟩
      have e3 : IntKind.i64.wrap (S + u) = S + u := IntWalk.i64_in _ (by omega)
      have hs3 : 0 ≤ S + u := by omega
      have hs4 : S + u ≤ 1000 * ((k + 1 : Nat) : Int) := by omega
      have HS3 := hid hs3; have HS4 := hid hs4
      clear hu u1 u2 hs3 hs4
      go_wp2_with fail
      go_roundw
      case rel => exact ⟨k + 1, S + u, by omega, by go_num, rfl, HS2, HS3.out, HS4.out, HBr.out⟩
      case measure => simp [intOf]; omega
    · obtain rfl : k = b + 1 := by omega
      have hS : S = (xn : Int) := by rw [HS.out, List.take_of_length_le (by rw [HCLEN.out]; exact Nat.le_refl _), HSUM.out]
      have i1 : ¬ ((b + 1 : Nat) : Int) < (b : Int) + 1 := by omega
      have e4 := beqT hS
      clear hS
      go_wp2
      go_ret
      exact ⟨rfl, bgo HEND.out HBr.out⟩
end Go.Proofs.Ytpoaomjpbjcmbaa
