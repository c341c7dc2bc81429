/-
  MeanParts: its walk.
-/
import Derived.Test.YtpoaomjpbjcmbaaDoorRiseLaw
namespace Go.Proofs.YtpoaomjpbjcmbaaDoor
open Go.RowKit
set_option linter.unusedVariables false
theorem nears_last (l : List (Int × Int × Bool)) (n : Nat) (hn : n ≤ 100) : ∃ T, (nears l n)[(nears l n).length - 1]? = some (T, 12) ∧ -50 ≤ T ∧ T ≤ 20000 ∧ ∀ x ∈ nears l n, x.1 ≤ T := by
  have hl : (l.take n).length ≤ 100 := by rw [List.length_take]; omega
  obtain ⟨_, h1, h2, h3, h4, h5⟩ := nrSt_inv (l.take n) (by omega)
  have hl2 : ((l.take n).length : Int) ≤ 100 := by omega
  refine ⟨(nrSt (l.take n)).1 + 9, ?_, by omega, by omega, fun x hx => ?_⟩
  · unfold nears; rw [List.length_append, List.length_singleton, Nat.add_sub_cancel, List.getElem?_concat_length]
  · unfold nears at hx
    rcases List.mem_append.1 hx with h6 | h6
    · have := (h4 x h6).1; omega
    · simp at h6; subst h6; simp only; omega
theorem prs_mean (l : List (Int × Int)) (h : NearIn l) (lo hi : Int) (hlo : ∀ x ∈ l, lo ≤ x.2 ∧ x.2 ≤ hi) : ∀ k, k < l.length →
    lo * ((l.getD k (0, 0)).1 - (l.getD 0 (0, 0)).1) ≤ prs dMean l k ∧ prs dMean l k ≤ hi * ((l.getD k (0, 0)).1 - (l.getD 0 (0, 0)).1)
  | 0, _ => by rw [Int.sub_self, Int.mul_zero, Int.mul_zero]; exact ⟨Int.le_refl _, Int.le_refl _⟩
  | k + 1, hk => by
    obtain ⟨ih1, ih2⟩ := prs_mean l h lo hi hlo k (by omega)
    have hx : l[k]? = some l[k] := List.getElem?_eq_getElem (by omega)
    have hy : l[k + 1]? = some l[k + 1] := List.getElem?_eq_getElem hk
    have e1 : l.getD k (0, 0) = l[k] := by rw [List.getD_eq_getElem?_getD, hx]; rfl
    have e2 : l.getD (k + 1) (0, 0) = l[k + 1] := by rw [List.getD_eq_getElem?_getD, hy]; rfl
    have hup := h.up k _ _ hx hy
    have hv := hlo _ (List.getElem_mem (show k < l.length by omega))
    show _ ≤ prs dMean l k + dMean (l.getD k (0, 0)) (l.getD (k + 1) (0, 0)) ∧ prs dMean l k + dMean (l.getD k (0, 0)) (l.getD (k + 1) (0, 0)) ≤ _
    rw [e1] at ih1 ih2 ⊢
    rw [e2]
    generalize l[k] = x at *
    generalize l[k + 1] = y at *
    generalize (l.getD 0 (0, 0)).1 = z at *
    have m1 := Int.mul_le_mul_of_nonneg_right hv.1 (show 0 ≤ y.1 - x.1 by omega)
    have m2 := Int.mul_le_mul_of_nonneg_right hv.2 (show 0 ≤ y.1 - x.1 by omega)
    have d1 : lo * (y.1 - z) = lo * (x.1 - z) + lo * (y.1 - x.1) := by rw [← Int.mul_add]; congr 1; omega
    have d2 : hi * (y.1 - z) = hi * (x.1 - z) + hi * (y.1 - x.1) := by rw [← Int.mul_add]; congr 1; omega
    rw [show dMean x y = x.2 * (y.1 - x.1) from rfl]
    omega
set_option maxHeartbeats 2000000 in
set_option maxRecDepth 100000 in
theorem law_meanParts (A : Option Addr) (n c : Nat) (l : List (Int × Int × Bool)) (a : Int) (w : World) (hn : n ≤ c) (hc : c ≤ maxLen) (_ : c * 24 ≤ 140737488351232) (hx : Sl w 3 A n (l.flatMap gD)) (hd : ∀ d ∈ l, DotOk d) (ha : -9223372036854775808 ≤ a) (ha1 : a ≤ 9223372036854775807) (ht : ZTab w) :
    Calls Tryd.prog 5 #[.slice A n c, .int .i64 a] w fun e w' => e = .returned (.bool true) ∧ Below w.heap.size w w' := by
  have HX := hid hx; have HD := hid hd; have HT := hid ht; clear hx hd ht
  go_enter Tryd.func5, Tryd.ntmps5
  go_wp2_with fail
  refine (near_of A n c l 80 w hn hc HX.out HD.out (by omega)).mono ?_
  rintro e w1 ⟨v1, rfl, ho1⟩
  obtain ⟨hin, hlen, hvs, _⟩ := nears_in l 80 (by omega)
  obtain ⟨T, hT1, hT2, hT3, hT4⟩ := nears_last l 80 (by omega)
  obtain ⟨s, hs⟩ : ∃ s, nears l 80 = s := ⟨_, rfl⟩
  rw [hs] at ho1 hin hlen hvs hT1 hT4
  clear hs
  obtain ⟨A1, c1, rfl, hc1, hc2⟩ := ho1.form
  obtain ⟨m, hm⟩ : ∃ m, s.length = m := ⟨_, rfl⟩
  rw [hm] at ho1 hc1 hlen hT1 ⊢
  have hm2 : 2 ≤ m := by omega
  have hm82 : m ≤ 82 := by omega
  have HO1 := hid ho1
  obtain ⟨s2, hs2⟩ : ∃ s2, s ++ [(T + 5, 1)] = s2 := ⟨_, rfl⟩
  have hs2l : s2.length = m + 1 := by rw [← hs2, List.length_append, hm]; rfl
  have HIN2 : Hid (NearIn s2) := by
    rw [← hs2]
    exact hid (hin.snoc ⟨by simp only; omega, by simp only; omega, by simp, by simp⟩ fun x hx => by have := hT4 x hx; simp only; omega)
  have HV2 : Hid (∀ x ∈ s2, 0 ≤ x.2 ∧ x.2 ≤ 1000) := by
    rw [← hs2]
    refine hid fun x hx => ?_
    rcases List.mem_append.1 hx with h | h
    · exact (hvs x h).2
    · simp at h; subst h; simp
  have HS2 := hid hs2; have HSL := hid hs2l
  obtain ⟨ad, x, rfl, hx, c0, c2⟩ := ho1.sl.atS (k := m - 1) (by omega)
  rw [hT1] at hx
  injection hx with hx
  subst hx
  have HM := hid hm
  clear ho1 hm hlen hin hvs hs2 hs2l hT1 hT4
  simp only at c0 c2
  have j1 : IntKind.i64.wrap ((m : Int) - 1) = (m : Int) - 1 := IntWalk.i64_in _ (by omega)
  have j3 : (0 : Int) ≤ (m : Int) - 1 := by omega
  have j4 : (m : Int) - 1 < (m : Int) := by omega
  have j5 : ((m : Int) - 1).toNat = m - 1 := by omega
  have j6 : 0 < m := by omega
  have j7 : (0 : Int) < (m : Int) := by omega
  have j8 : wrap64 ((m : Int) - 1) = (m : Int) - 1 := IntWalk.wrap64_in _ ⟨by omega, by omega⟩
  have j9 : (1 : Int) ≤ (m : Int) := by omega
  unfold maxLen at hc2
  go_wp2_with (at_builtin; refine wpList_appY elmP gP_one rfl (.tmp 21) (.tmp 31) rfl (.slice (some ad) m c1) s rfl (HO1.out.alloc _) [(T + 5, 1)] s2 HS2 rfl (Sl.fresh w1 #[.int .i64 (T + 5), .int .i64 1] 26 2 1 rfl) rfl (by rw [HSL.out]; simp only [maxLen]; omega) (by rw [HSL.out]; omega) ?_; intro A2 c2' w2 hc3 hc4 HN1 _ _)
  rw [HSL.out] at hc3 HN1
  obtain ⟨M, hM⟩ : ∃ M, m + 1 = M := ⟨_, rfl⟩
  rw [hM] at hc3 HN1 HSL
  have hM3 : 3 ≤ M := by omega
  have hM83 : M ≤ 83 := by omega
  have hw64 : wrap64 ((s2.length : Int) - 2) = ((M - 2 : Nat) : Int) := by rw [HSL.out, show (M : Int) - 2 = ((M - 2 : Nat) : Int) by omega]; exact IntWalk.wrap64_in _ ⟨by omega, by omega⟩
  rw [hw64]
  have hslv : s2.length = M := HSL.out
  clear hw64 c0 c2 j1 j3 j4 j5 j6 j7 j8 j9 hM hc1
  have HO2 := HN1
  have HB2 := hid HN1.out.below
  refine (picked a ((M - 2 : Nat) : Int) w2 (by omega) ha ha1 (by omega)).mono ?_
  rintro e w2 ⟨rfl, rfl⟩
  have hp := pk_lt a ((M - 2 : Nat) : Int) (by omega)
  generalize pk a ((M - 2 : Nat) : Int) = j at *
  obtain ⟨i, hi⟩ : ∃ i, j + 1 = i := ⟨_, rfl⟩
  have hi1 : 1 ≤ i := by omega
  have hi2 : i + 1 < M := by omega
  have hji : (1 : Int) + (j : Int) = (i : Int) := by omega
  have hji2 : (j : Int) + 1 = (i : Int) := by omega
  clear hp hji2 hi
  obtain ⟨X1, hX1⟩ : ∃ X, prs dMean s2 i = X := ⟨_, rfl⟩
  obtain ⟨X2, hX2⟩ : ∃ X, prs dMean (s2.drop i) (M - i - 1) = X := ⟨_, rfl⟩
  obtain ⟨X3, hX3⟩ : ∃ X, prs dMean s2 (M - 1) = X := ⟨_, rfl⟩
  have hsum : X1 + X2 = X3 := by
    rw [← hX1, ← hX2, ← hX3, prs_drop]; congr 1; omega
  have b1 := prs_bd dMean s2 HIN2.out dMean_bd i (by rw [HSL.out]; omega)
  have b3 := prs_bd dMean s2 HIN2.out dMean_bd (M - 1) (by rw [HSL.out]; omega)
  rw [hX1] at b1; rw [hX3] at b3
  have hXb : -1000000000000000000 ≤ X3 ∧ X3 ≤ 1000000000000000000 := by omega
  have w1a : IntKind.i64.wrap (X1 + X2) = X1 + X2 := IntWalk.i64_in _ (by omega)
  have w1b : wrap64 (X1 + X2) = X1 + X2 := IntWalk.wrap64_in _ ⟨by omega, by omega⟩
  have HX1 := hid hX1; have HX2 := hid hX2; have HX3 := hid hX3
  clear hX1 hX2 hX3 b1 b3
  obtain ⟨x0, hx0⟩ : ∃ x, s2[0]? = some x := ⟨_, List.getElem?_eq_getElem (by rw [HSL.out]; omega)⟩
  obtain ⟨xi, hxi⟩ : ∃ x, s2[i]? = some x := ⟨_, List.getElem?_eq_getElem (by rw [HSL.out]; omega)⟩
  obtain ⟨xl, hxl⟩ : ∃ x, s2[M - 1]? = some x := ⟨_, List.getElem?_eq_getElem (by rw [HSL.out]; omega)⟩
  have bx0 := HIN2.out.bd x0 (List.mem_of_getElem? hx0)
  have bxi := HIN2.out.bd xi (List.mem_of_getElem? hxi)
  have bxl := HIN2.out.bd xl (List.mem_of_getElem? hxl)
  have vx0 := HV2.out x0 (List.mem_of_getElem? hx0)
  have g0 : (s2.getD 0 (0, 0)) = x0 := by rw [List.getD_eq_getElem?_getD, hx0]; rfl
  have gl : (s2.getD (M - 1) (0, 0)) = xl := by rw [List.getD_eq_getElem?_getD, hxl]; rfl
  have gi : (s2.getD i (0, 0)) = xi := by rw [List.getD_eq_getElem?_getD, hxi]; rfl
  have HX0 := hid hx0; have HXI := hid hxi; have HXL := hid hxl
  have HG0 := hid g0; have HGL := hid gl; have HGI := hid gi
  clear hx0 hxi hxl g0 gl gi
  obtain ⟨PP, hPP⟩ : ∃ R, xi.1 - x0.1 = R := ⟨_, rfl⟩
  obtain ⟨QQ, hQQ⟩ : ∃ R, xl.1 - xi.1 = R := ⟨_, rfl⟩
  obtain ⟨R, hR⟩ : ∃ R, xl.1 - x0.1 = R := ⟨_, rfl⟩
  have hPQ : PP + QQ = R := by omega
  have HPP := hid hPP; have HQQ := hid hQQ; have HRR := hid hR; have HPQ := hid hPQ; have HSUM := hid hsum
  have hRb : -33554432 ≤ R ∧ R ≤ 33554432 := by omega
  clear hPP hQQ hR hPQ hsum w1a w1b bxi
  unfold maxLen at hc4
  have z1 : (i : Int) + 1 ≤ (c2' : Int) := by omega
  have z2 : (i : Int) ≤ (c2' : Int) := by omega
  have z3 : (i : Int) ≤ (M : Int) := by omega
  have z4 : (M : Int) ≤ (c2' : Int) := by omega
  have z5 : (0 : Int) ≤ (i : Int) + 1 := by omega
  have z6 : ((i : Int) + 1).toNat = i + 1 := by omega
  have hsi := HO2.out.sl.cutG (k := i) (g := gP) (fun _ => rfl) (by omega) hc3
  rw [if_neg (by omega)] at hsi
  have HSI := hid hsi
  have HSP := hid (HO2.out.sl.preG (k := i + 1) (g := gP) (fun _ => rfl) (by omega))
  clear hsi
  have hl1 : (s2.take (i + 1)).length = i + 1 := by rw [List.length_take, HSL.out]; omega
  have hl2 : (s2.drop i).length = M - i := by rw [List.length_drop, HSL.out]
  have q1 : prs dMean (s2.take (i + 1)) (i + 1 - 1) = X1 := by rw [Nat.add_sub_cancel, prs_take dMean s2 i i (Nat.le_refl _), HX1.out]
  have n1 := HIN2.out.take (i + 1)
  have n2 := HIN2.out.drop i
  have t1 : (s2.take (i + 1)).getD (i + 1 - 1) (0, 0) = xi := by rw [Nat.add_sub_cancel, List.getD_eq_getElem?_getD, List.getElem?_take, if_pos (by omega), HXI.out]; rfl
  have t2 : (s2.take (i + 1)).getD 0 (0, 0) = x0 := by rw [List.getD_eq_getElem?_getD, List.getElem?_take, if_pos (by omega), HX0.out]; rfl
  have t3 : (s2.drop i).getD (M - i - 1) (0, 0) = xl := by rw [List.getD_eq_getElem?_getD, List.getElem?_drop, show i + (M - i - 1) = M - 1 by omega, HXL.out]; rfl
  have t4 : (s2.drop i).getD 0 (0, 0) = xi := by rw [List.getD_eq_getElem?_getD, List.getElem?_drop, Nat.add_zero, HXI.out]; rfl
  obtain ⟨L1, hL1⟩ : ∃ L, s2.take (i + 1) = L := ⟨_, rfl⟩
  obtain ⟨L2, hL2⟩ : ∃ L, s2.drop i = L := ⟨_, rfl⟩
  rw [hL1] at hl1 HSP q1 n1 t1 t2
  rw [hL2] at hl2 HSI HX2 n2 t3 t4
  have HL1 := hid hl1; have HL2 := hid hl2; have HQ1 := hid q1; have HN1' := hid n1; have HN2' := hid n2
  have T1 := hid t1; have T2 := hid t2; have T3 := hid t3; have T4 := hid t4
  clear hl1 hl2 hL1 hL2 q1 n1 n2 t1 t2 t3 t4
  go_wp2_with (at_builtin; refine wpList_appY elmP gP_one rfl (.const (.slice none 0 0)) (.tmp 43) rfl (.slice none 0 0) [] rfl (Ow.nil _ _ _ _) L1 L1 (hid (List.nil_append _)) rfl HSP.out HL1.out (by rw [HL1.out]; simp only [maxLen]; omega) (by rw [HL1.out]; omega) ?_; intro A3 c3 w3 hc5 hc6 HN1 _ _)
  rw [HL1.out] at hc5 HN1 ⊢
  refine (rate_Mean A3 (i + 1) c3 L1 w3 (by omega) (by omega) HN1.out.sl HN1'.out ((HT.out.below HB2.out).below HN1.out.below)).mono ?_
  rw [HQ1.out, T1.out, T2.out, HPP.out]
  rintro e w4 ⟨rfl, hb4⟩
  have HB4 := hid (bgo' hb4 HN1.out.below)
  clear hb4
  go_wp2_with (at_builtin; refine wpList_appY elmP gP_one rfl (.const (.slice none 0 0)) (.tmp 52) rfl (.slice none 0 0) [] rfl (Ow.nil _ _ _ _) L2 L2 (hid (List.nil_append _)) rfl (HSI.out.below HB4.out) HL2.out (by rw [HL2.out]; simp only [maxLen]; omega) (by rw [HL2.out]; omega) ?_; intro A5 c5 w5 hc7 hc8 HN2 _ _)
  rw [HL2.out] at hc7 HN2 ⊢
  refine (rate_Mean A5 (M - i) c5 L2 w5 (by omega) (by omega) HN2.out.sl HN2'.out ((HT.out.below HB2.out).below (bgo' HN2.out.below HB4.out))).mono ?_
  rw [HX2.out, T3.out, T4.out, HQQ.out]
  rintro e w6 ⟨rfl, hb6⟩
  have HB6 := hid (bgo' hb6 (bgo' HN2.out.below HB4.out))
  clear hb6
  go_wp2_with (at_builtin; refine wpList_appY elmP gP_one rfl (.const (.slice none 0 0)) (.tmp 59) rfl (.slice none 0 0) [] rfl (Ow.nil _ _ _ _) s2 s2 (hid (List.nil_append _)) rfl (HO2.out.sl.below HB6.out) HSL.out (by rw [HSL.out]; simp only [maxLen]; omega) (by rw [HSL.out]; omega) ?_; intro A7 c7 w7 hc9 hc10 HN3 _ _)
  rw [HSL.out] at hc9 HN3
  refine (rate_Mean A7 M c7 s2 w7 (by omega) (by omega) HN3.out.sl HIN2.out ((HT.out.below HB2.out).below (bgo' HN3.out.below HB6.out))).mono ?_
  rw [HX3.out, HGL.out, HG0.out, HRR.out]
  rintro e w8 ⟨rfl, hb8⟩
  have HB8 := hid (bgo' hb8 (bgo' HN3.out.below HB6.out))
  clear hb8
  have HO8 := hid (HO2.out.step HB8.out)
  obtain ⟨ad2, y0, rfl, hy0, c0, c2⟩ := HO8.out.sl.atS (k := 0) (by omega)
  obtain ⟨ad', yl, ha', hyl, d0, d2⟩ := HO8.out.sl.atS (k := M - 1) (by omega)
  injection ha' with ha'; subst ad'
  obtain rfl : y0 = x0 := by have := HX0.out; rw [hy0] at this; injection this
  obtain rfl : yl = xl := by have := HXL.out; rw [hyl] at this; injection this
  clear hy0 hyl
  obtain ⟨xt, xv⟩ := y0
  obtain ⟨yt, yv⟩ := yl
  simp only at c0 c2 d0 d2 bx0 bxl vx0 ⊢
  have j1 : IntKind.i64.wrap ((M : Int) - 1) = (M : Int) - 1 := IntWalk.i64_in _ (by omega)
  have j3 : (0 : Int) ≤ (M : Int) - 1 := by omega
  have j4 : (M : Int) - 1 < (M : Int) := by omega
  have j5 : ((M : Int) - 1).toNat = M - 1 := by omega
  have j6 : 0 < M := by omega
  have j7 : (0 : Int) < (M : Int) := by omega
  have j8 : wrap64 ((M : Int) - 1) = (M : Int) - 1 := IntWalk.wrap64_in _ ⟨by omega, by omega⟩
  have j9 : (1 : Int) ≤ (M : Int) := by omega
  have k1 : IntKind.i64.wrap (yt - xt) = yt - xt := IntWalk.i64_in _ (by omega)
  have k2 : wrap64 (yt - xt) = yt - xt := IntWalk.wrap64_in _ ⟨by omega, by omega⟩
  have hHR := HRR.out
  simp only at hHR
  have hR0 : 0 ≤ R := by
    have hmono : ∀ k, k < s2.length → (s2.getD 0 (0, 0)).1 ≤ (s2.getD k (0, 0)).1 := by
      intro k
      induction k with
      | zero => intro _; exact Int.le_refl _
      | succ k ih =>
        intro hk
        have h1 := ih (by omega)
        have hx : s2[k]? = some s2[k] := List.getElem?_eq_getElem (by omega)
        have hy : s2[k + 1]? = some s2[k + 1] := List.getElem?_eq_getElem hk
        have h2 := HIN2.out.up k _ _ hx hy
        rw [show s2.getD k (0, 0) = s2[k] by rw [List.getD_eq_getElem?_getD, hx]; rfl] at h1
        rw [show s2.getD (k + 1) (0, 0) = s2[k + 1] by rw [List.getD_eq_getElem?_getD, hy]; rfl]
        omega
    have h8 := hmono (M - 1) (by rw [HSL.out]; omega)
    rw [HGL.out, HG0.out] at h8
    simp only at h8; omega
  have HMN := hid (fun lo hi h => by have := prs_mean s2 HIN2.out lo hi h (M - 1) (by rw [HSL.out]; omega); rw [HX3.out, HGL.out, HG0.out] at this; simp only at this; rw [hHR] at this; exact this)
  have m1 : wrap64 (X1 + X2) = X3 := by rw [HSUM.out]; exact IntWalk.wrap64_in _ ⟨by omega, by omega⟩
  have m2 : wrap64 (PP + QQ) = R := by rw [HPQ.out]; exact IntWalk.wrap64_in _ ⟨by omega, by omega⟩
  have m3 : IntKind.i64.wrap (X1 + X2) = X3 := by rw [HSUM.out]; exact IntWalk.i64_in _ (by omega)
  have m4 : IntKind.i64.wrap (PP + QQ) = R := by rw [HPQ.out]; exact IntWalk.i64_in _ (by omega)
  have m5 : (X3 != X3) = false := by simp
  have m6 : (R != R) = false := by simp
  have m7 : (R != yt - xt) = false := by rw [hHR]; exact m6
  have HHR := hid hHR
  have c00 : w8.cell? ad2 = some (.int .i64 xt) := by have := c0; simpa [Addr.add] using this
  have c02 : w8.cell? ⟨ad2.block, ad2.off + 1, none⟩ = some (.int .i64 xv) := by have := c2; simpa [Addr.add] using this
  have HBX := hid (And.intro bx0 bxl)
  have HVX := hid vx0
  clear hHR bx0 bxl vx0 hc5 hc6 hc7 hc8 hc9 hc10 z1 z2 z3 z4 z5 z6 hc2 hc4 hm2 hm82 hT2 hT3 ha ha1 hi1 hi2 hn hc
  go_wp2_with fail
  go_quiet (fail)
  have HS8 := hid HO8.out.sl
  clear c0 c2 d0 d2 j1 j3 j4 j5 j8 j9 k1 k2 m1 m2 m3 m4 m5 m6 m7 HX0 HG0 HPP T1 T2 T3 T4 HXL HGL HQQ HXI HGI HX2 HL1 HL2 HQ1 HN1' HN2' HPQ HSUM HSP HSI HN1 HN2 HN3 HB6 HB4 HHR HBX
  go_wp2_with fail
  go_loopw [16, 17, 18] (fun u v i wr => ∃ (k : Nat) (lo hi : Int), k ≤ M ∧ i = .int .i64 k ∧ u = .int .i64 lo ∧ v = .int .i64 hi ∧ 0 ≤ lo ∧ lo ≤ 1000 ∧ 0 ≤ hi ∧ hi ≤ 1000 ∧ Hid (∀ x ∈ s2.take k, lo ≤ x.2 ∧ x.2 ≤ hi) ∧ Below w8.heap.size w8 wr) (fun _ _ i _ => M - (intOf i).toNat)
  case atStart => exact ⟨0, xv, xv, Nat.zero_le _, rfl, rfl, rfl, HVX.out.1, HVX.out.2, HVX.out.1, HVX.out.2, hid (by simp), below_drewN (bnil _) _⟩
  case round =>
    obtain ⟨k, lo, hi, hk, rfl, rfl, rfl, hlo, hlo2, hhi, hhi2, HLH, hb⟩ := hrel
    have HBr := hid hb; clear hb
    by_cases hlt : k < M
    · obtain ⟨ad3, y, ha3, hy, c0, c2⟩ := (HS8.out.below HBr.out).atS hlt
      injection ha3 with ha3; subst ad3
      have hyb := HV2.out y (List.mem_of_getElem? hy)
      have HTK := hid (show ∀ x ∈ s2.take (k + 1), x ∈ s2.take k ∨ x = y by intro x hx; rw [take_next hy] at hx; simpa using hx)
      obtain ⟨yt', yv'⟩ := y
      simp only at c0 c2 hyb
      have i1 : (k : Int) < (M : Int) := by omega
      clear hy
      go_wp2
      all_goals
        go_roundw
        case rel =>
          refine ⟨k + 1, _, _, by omega, by go_num, rfl, rfl, ?_, ?_, ?_, ?_, hid (fun x hx => ?_), HBr.out⟩
          · (try split) <;> omega
          · (try split) <;> omega
          · (try split) <;> omega
          · (try split) <;> omega
          · rcases HTK.out x hx with h | h
            · have := HLH.out x h
              constructor <;> (try split) <;> omega
            · subst h
              simp only
              constructor <;> (try split) <;> omega
        case measure => simp [intOf]; omega
    · obtain rfl : k = M := by omega
      have i1 : ¬ (k : Int) < (k : Int) := by omega
      obtain ⟨b1, b2⟩ := HMN.out lo hi (by rw [List.take_of_length_le (by rw [HSL.out]; exact Nat.le_refl _)] at HLH; exact HLH.out)
      have bb1 := mul_bd lo R 1000 33554432 (by omega) (by omega) (by omega) (by omega)
      have bb2 := mul_bd hi R 1000 33554432 (by omega) (by omega) (by omega) (by omega)
      obtain ⟨U, hU⟩ : ∃ U, lo * R = U := ⟨_, rfl⟩
      obtain ⟨V, hV⟩ : ∃ U, hi * R = U := ⟨_, rfl⟩
      rw [hU] at b1 bb1; rw [hV] at b2 bb2
      have e1 : IntKind.i64.wrap (lo * R) = U := by rw [hU]; exact IntWalk.i64_in _ (by omega)
      have e2 : IntKind.i64.wrap (hi * R) = V := by rw [hV]; exact IntWalk.i64_in _ (by omega)
      have e3 : wrap64 (lo * R) = U := by rw [hU]; exact IntWalk.wrap64_in _ ⟨by omega, by omega⟩
      have e4 : wrap64 (hi * R) = V := by rw [hV]; exact IntWalk.wrap64_in _ ⟨by omega, by omega⟩
      have e5 : decide (U ≤ X3) = true := decide_eq_true b1
      have e6 : decide (X3 ≤ V) = true := decide_eq_true b2
      clear hU hV
      go_wp2
      go_ret
      exact ⟨rfl, bgo HB2.out (bgo HB8.out HBr.out)⟩
end Go.Proofs.YtpoaomjpbjcmbaaDoor
