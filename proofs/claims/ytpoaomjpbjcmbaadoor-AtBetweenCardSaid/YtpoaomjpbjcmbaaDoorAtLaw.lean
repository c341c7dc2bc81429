/-
  AtBetween: its walk.
-/
import Derived.Test.YtpoaomjpbjcmbaaDoorAt
import Derived.Test.YtpoaomjpbjcmbaaDoorMeanLaw
import Derived.Deep.RegionLaw
namespace Go.Proofs.YtpoaomjpbjcmbaaDoor
open Go.RowKit
set_option linter.unusedVariables false
theorem first_ex (t : Int) : ∀ l : List (Int × Int), ∃ i, FirstGE l t i
  | [] => ⟨0, Nat.le_refl _, by simp, by simp⟩
  | x :: l => by
    obtain ⟨i, h1, h2, h3⟩ := first_ex t l
    by_cases hx : x.1 < t
    · refine ⟨i + 1, by simpa using h1, fun k y hk hy => ?_, fun y hy => h3 y (by simpa using hy)⟩
      match k with
      | 0 => simp at hy; rw [← hy]; exact hx
      | k + 1 => exact h2 k y (by omega) (by simpa using hy)
    · exact ⟨0, Nat.zero_le _, by simp, fun y hy => by simp at hy; rw [← hy]; omega⟩
theorem atv_some (l : List (Int × Int)) (h : NearIn l) (t : Int) (i : Nat) (hf : FirstGE l t i) (x : Int × Int) (hx : l[i]? = some x) (h0 : i = 0 → x.1 = t) :
    (atv l t i).2 = 0 ∧ ((x.1 = t ∧ (atv l t i).1 = x.2) ∨ (¬ x.1 = t ∧ 0 < i ∧ ∃ y, l[i - 1]? = some y ∧ y.1 < t ∧ t < x.1 ∧ (atv l t i).1 = y.2 + (x.2 - y.2) * (t - y.1) / (x.1 - y.1))) := by
  unfold atv
  rw [hx]
  simp only
  by_cases hxt : x.1 = t
  · rw [if_pos hxt]; exact ⟨rfl, .inl ⟨hxt, rfl⟩⟩
  · rw [if_neg hxt, if_neg (fun h => hxt (h0 h))]
    have hi : 0 < i := by
      rcases Nat.eq_zero_or_pos i with h1 | h1
      · exact absurd (h0 h1) hxt
      · exact h1
    have hil := (List.getElem?_eq_some_iff.1 hx).1
    have hy : l[i - 1]? = some l[i - 1] := List.getElem?_eq_getElem (by omega)
    refine ⟨rfl, .inr ⟨hxt, hi, l[i - 1], hy, hf.2.1 _ _ (by omega) hy, by have := hf.2.2 x hx; omega, ?_⟩⟩
    rw [show l.getD (i - 1) (0, 0) = l[i - 1] by rw [List.getD_eq_getElem?_getD, hy]; rfl]
theorem between (P Q D : Int) (hQ : 0 < Q) (hD : Q < D) : (0 ≤ P → 0 ≤ P * Q / D ∧ P * Q / D ≤ P) ∧ (P ≤ 0 → P ≤ P * Q / D ∧ P * Q / D ≤ 0) := by
  have hD0 : 0 < D := by omega
  refine ⟨fun hP => ⟨Int.ediv_nonneg (Int.mul_nonneg hP (by omega)) (by omega), ?_⟩, fun hP => ⟨?_, ?_⟩⟩
  · have h1 := Int.mul_le_mul_of_nonneg_left (show Q ≤ D by omega) hP
    have h2 := Int.ediv_le_ediv hD0 h1
    rwa [Int.mul_ediv_cancel _ (by omega)] at h2
  · have h1 := Int.mul_le_mul_of_nonpos_left hP (show Q ≤ D by omega)
    have h2 := Int.ediv_le_ediv hD0 h1
    rwa [Int.mul_ediv_cancel _ (by omega)] at h2
  · have h1 := Int.mul_le_mul_of_nonpos_left hP (show 0 ≤ Q by omega)
    rw [Int.mul_zero] at h1
    have h2 := Int.ediv_le_ediv hD0 h1
    rwa [Int.zero_ediv] at h2
def lineOf (r : Int) (l : List (Int × Int)) : List (Int × Int) := l.map fun x => (x.1, r * x.1 + 3)
theorem line_snoc (r : Int) (l : List (Int × Int)) (x : Int × Int) : lineOf r (l ++ [x]) = lineOf r l ++ [(x.1, r * x.1 + 3)] := by unfold lineOf; rw [List.map_append]; rfl
theorem line_len (r : Int) (l : List (Int × Int)) : (lineOf r l).length = l.length := by unfold lineOf; rw [List.length_map]
theorem line_at (r : Int) (l : List (Int × Int)) (k : Nat) (y : Int × Int) : (lineOf r l)[k]? = some y ↔ ∃ x, l[k]? = some x ∧ y = (x.1, r * x.1 + 3) := by
  unfold lineOf
  rw [List.getElem?_map]
  constructor
  · intro h
    obtain ⟨x, h1, h2⟩ := Option.map_eq_some_iff.1 h
    exact ⟨x, h1, h2.symm⟩
  · rintro ⟨x, h1, h2⟩
    rw [h1, h2]; rfl
theorem line_first (r : Int) (l : List (Int × Int)) (t : Int) (i : Nat) (h : FirstGE l t i) : FirstGE (lineOf r l) t i := by
  refine ⟨by rw [line_len]; exact h.1, fun k y hk hy => ?_, fun y hy => ?_⟩
  · obtain ⟨x, h1, rfl⟩ := (line_at r l k y).1 hy
    exact h.2.1 k x hk h1
  · obtain ⟨x, h1, rfl⟩ := (line_at r l i y).1 hy
    exact h.2.2 x h1
theorem line_near (r : Int) (l : List (Int × Int)) (h : NearIn l) (hr : -100 ≤ r ∧ r ≤ 100) (hb : ∀ x ∈ l, -50 ≤ x.1 ∧ x.1 ≤ 20000) : NearIn (lineOf r l) := by
  refine ⟨fun y hy => ?_, fun k x y hx hy => ?_⟩
  · obtain ⟨x, hx, rfl⟩ := List.mem_map.1 hy
    have h1 := hb x hx
    have h2 := mul_bd r x.1 100 20000 (by omega) (by omega) (by omega) (by omega)
    simp only; omega
  · obtain ⟨x', h1, rfl⟩ := (line_at r l k x).1 hx
    obtain ⟨y', h2, rfl⟩ := (line_at r l (k + 1) y).1 hy
    exact h.up k x' y' h1 h2
theorem line_atv (r : Int) (l : List (Int × Int)) (h : NearIn l) (t : Int) (i : Nat) (hf : FirstGE l t i) (x : Int × Int) (hx : l[i]? = some x) (h0 : i = 0 → x.1 = t) : atv (lineOf r l) t i = (r * t + 3, 0) := by
  unfold atv
  rw [(line_at r l i _).2 ⟨x, hx, rfl⟩]
  simp only
  by_cases hxt : x.1 = t
  · rw [if_pos hxt, hxt]
  · rw [if_neg hxt, if_neg (fun h => hxt (h0 h))]
    have hi : 0 < i := by
      rcases Nat.eq_zero_or_pos i with h1 | h1
      · exact absurd (h0 h1) hxt
      · exact h1
    have hil := (List.getElem?_eq_some_iff.1 hx).1
    have hy : l[i - 1]? = some l[i - 1] := List.getElem?_eq_getElem (by omega)
    have hyt := hf.2.1 _ _ (show i - 1 < i by omega) hy
    have hxt2 := hf.2.2 x hx
    rw [show (lineOf r l).getD (i - 1) (0, 0) = (l[i - 1].1, r * l[i - 1].1 + 3) by rw [List.getD_eq_getElem?_getD, (line_at r l (i - 1) _).2 ⟨_, hy, rfl⟩]; rfl]
    generalize l[i - 1] = y at *
    simp only
    have e1 : (r * x.1 + 3 - (r * y.1 + 3)) * (t - y.1) = (r * (t - y.1)) * (x.1 - y.1) := by
      rw [show r * x.1 + 3 - (r * y.1 + 3) = r * (x.1 - y.1) by rw [Int.mul_sub]; omega]
      rw [Int.mul_assoc, Int.mul_assoc, Int.mul_comm (x.1 - y.1) (t - y.1)]
    rw [e1, Int.mul_ediv_cancel _ (by omega), Int.mul_sub]
    congr 1; omega
set_option maxHeartbeats 4000000 in
set_option maxRecDepth 100000 in
theorem law_atBetween (A : Option Addr) (n c : Nat) (l : List (Int × Int × Bool)) (a b : Int) (w : World) (hn : n ≤ c) (hc : c ≤ maxLen) (_ : c * 24 ≤ 140737488351232) (hx : Sl w 3 A n (l.flatMap gD)) (hd : ∀ d ∈ l, DotOk d) (ha : -9223372036854775808 ≤ a) (ha1 : a ≤ 9223372036854775807) (hb : -9223372036854775808 ≤ b) (hb1 : b ≤ 9223372036854775807) (ht : ZTab w) :
    Calls Tryd.prog 10 #[.slice A n c, .int .i64 a, .int .i64 b] w fun e w' => e = .returned (.bool true) ∧ Below w.heap.size w w' := by
  have HX := hid hx; have HD := hid hd; have HT := hid ht; clear hx hd ht
  go_enter Tryd.func10, Tryd.ntmps10
  go_wp2_with fail
  refine (near_of A n c l 80 w hn hc HX.out HD.out (by omega)).mono ?_
  rintro e w1 ⟨v1, rfl, ho1⟩
  obtain ⟨hin, hlen, hvs, vs, hhd⟩ := nears_in l 80 (by omega)
  obtain ⟨T, hT1, hT2, hT3, hT4⟩ := nears_last l 80 (by omega)
  obtain ⟨s, hs⟩ : ∃ s, nears l 80 = s := ⟨_, rfl⟩
  rw [hs] at ho1 hin hlen hvs hT1 hT4 hhd
  have h00 : s[0]? = some (-50, 7) := by rw [hhd]; rfl
  clear hs hhd
  obtain ⟨A1, c1, rfl, hc1, hc2⟩ := ho1.form
  obtain ⟨m, hm⟩ : ∃ m, s.length = m := ⟨_, rfl⟩
  rw [hm] at ho1 hc1 hlen hT1 ⊢
  have hm2 : 2 ≤ m := by omega
  have hm82 : m ≤ 82 := by omega
  have HO1 := hid ho1
  have HIN := hid hin
  have HBD := hid (show ∀ x ∈ s, -50 ≤ x.1 ∧ x.1 ≤ 20000 ∧ 0 ≤ x.2 ∧ x.2 ≤ 1000 from fun x hx => by have h1 := hvs x hx; have h2 := hT4 x hx; omega)
  have HM := hid hm; have HH := hid h00; have HTL := hid hT1; have HT4 := hid hT4
  obtain ⟨ad, x, rfl, hx, c0, c2⟩ := ho1.sl.atS (k := m - 1) (by omega)
  rw [hT1] at hx
  injection hx with hx
  subst hx
  obtain ⟨ad', y, ha', hy, d0, d2⟩ := ho1.sl.atS (k := 0) (by omega)
  injection ha' with ha'; subst ad'
  rw [h00] at hy
  injection hy with hy
  subst hy
  clear ho1 hm hlen hin hvs hT1 hT4 h00
  simp only at c0 c2 d0 d2
  have d00 : w1.cell? ad = some (.int .i64 (-50)) := by have := d0; simpa [Addr.add] using this
  clear d0 d2 c2
  have j1 : IntKind.i64.wrap ((m : Int) - 1) = (m : Int) - 1 := IntWalk.i64_in _ (by omega)
  have j3 : (0 : Int) ≤ (m : Int) - 1 := by omega
  have j4 : (m : Int) - 1 < (m : Int) := by omega
  have j5 : ((m : Int) - 1).toNat = m - 1 := by omega
  have j6 : 0 < m := by omega
  have j7 : (0 : Int) < (m : Int) := by omega
  have j8 : wrap64 ((m : Int) - 1) = (m : Int) - 1 := IntWalk.wrap64_in _ ⟨by omega, by omega⟩
  have j9 : (1 : Int) ≤ (m : Int) := by omega
  obtain ⟨U, hU⟩ : ∃ U, T + 50 = U := ⟨_, rfl⟩
  obtain ⟨V, hV⟩ : ∃ V, U + 1 = V := ⟨_, rfl⟩
  have hpk := pk_lt a V (by omega)
  have HP := fun W => hid (picked a V W (by omega) ha ha1 (by omega))
  generalize pk a V = p at *
  obtain ⟨t, ht⟩ : ∃ t : Int, -50 + (p : Int) = t := ⟨_, rfl⟩
  have ht0 : -50 ≤ t := by omega
  have ht1 : t ≤ T := by omega
  have e1 : wrap64 (T + 50) = U := by rw [hU]; exact IntWalk.wrap64_in _ ⟨by omega, by omega⟩
  have e2 : IntKind.i64.wrap (T + 50) = U := by rw [hU]; exact IntWalk.i64_in _ (by omega)
  have e3 : wrap64 (U + 1) = V := by rw [hV]; exact IntWalk.wrap64_in _ ⟨by omega, by omega⟩
  have e4 : IntKind.i64.wrap (U + 1) = V := by rw [hV]; exact IntWalk.i64_in _ (by omega)
  have e5 : wrap64 (-50 + (p : Int)) = t := by rw [ht]; exact IntWalk.wrap64_in _ ⟨by omega, by omega⟩
  have e6 : IntKind.i64.wrap (-50 + (p : Int)) = t := by rw [ht]; exact IntWalk.i64_in _ (by omega)
  clear hpk hU hV
  clear ht
  unfold maxLen at hc2
  go_wp2_with fail
  go_region_held3 (fun w' => Below w1.heap.size w1 w' ∧ w'.cell? ad = some (.int .i64 (-50)) ∧ w'.cell? (ad.add ((m - 1) * 2)) = some (.int .i64 T))
    ((refine sees2 ?_ d00 c0; (repeat (first | exact (‹Below w1.heap.size w1 _ ∧ _ ∧ _›).1 | exact bnil _ | refine Below.drew ?_ | refine bnew ?_ _))))
    (first
      | ((with_reducible refine (HP _).out.mono ?_); rintro e w9 ⟨rfl, rfl⟩; dsimp only))
  have HO2 := hid HO1.out.drew
  have HBW := hid ((bnil w1).drew)
  clear d00 c0 e1 e2 e3 e4 e5 e6 j1 j3 j4 j5 j6 j7 j8 j9 HP
  generalize w1.drew = w2 at *
  obtain ⟨i, hi⟩ := first_ex t s
  have him : i < m := by
    rcases Nat.lt_or_ge i m with h | h
    · exact h
    · exfalso
      have h1 := hi.2.1 (m - 1) (T, 12) (by omega) HTL.out
      simp only at h1; omega
  obtain ⟨x, hx⟩ : ∃ x, s[i]? = some x := ⟨_, List.getElem?_eq_getElem (by rw [HM.out]; exact him)⟩
  have hi0 : i = 0 → x.1 = t := by
    intro h
    subst h
    rw [HH.out] at hx; injection hx with hx
    have h2 := hi.2.2 (-50, 7) HH.out
    rw [← hx]; simp only at h2 ⊢; omega
  obtain ⟨hv0, hv1⟩ := atv_some s HIN.out t i hi x hx hi0
  have HVV := hid hv1
  have HFI := hid hi; have HXI := hid hx
  obtain ⟨X, hX⟩ : ∃ X, (atv s t i).1 = X := ⟨_, rfl⟩
  rw [hX] at HVV
  have hatv : atv s t i = (X, 0) := Prod.ext hX hv0
  have HATV := hid hatv
  have HLINE := hid (fun r => line_atv r s HIN.out t i hi x hx hi0)
  clear hv0 hv1 hX hatv hi hx hi0
  go_wp2_with (at_builtin; refine wpList_appY elmP gP_one rfl (.const (.slice none 0 0)) (.tmp 44) rfl (.slice none 0 0) [] rfl (Ow.nil _ _ _ _) s s (hid (List.nil_append _)) rfl HO2.out.sl HM.out (by rw [HM.out]; simp only [maxLen]; omega) (by rw [HM.out]; omega) ?_; intro A3 c3 w3 hc3 hc4 HN1 _ _)
  rw [HM.out] at hc3 HN1 ⊢
  refine (rate_At A3 m c3 s t i w3 (by omega) HN1.out.sl HIN.out ⟨by omega, by omega⟩ HFI.out ((HT.out.below HO2.out.below).below HN1.out.below)).mono ?_
  rw [HATV.out]
  rintro e w4 ⟨rfl, hb4⟩
  have HB4 := hid (bgo' hb4 HN1.out.below)
  clear hb4
  simp only
  go_wp2_with fail
  refine (picked b 200 w4 (by omega) hb hb1 (by omega)).mono ?_
  rintro e w4 ⟨rfl, rfl⟩
  have hpk := pk_lt b 200 (by omega)
  generalize pk b 200 = r0 at *
  obtain ⟨r, hr⟩ : ∃ r : Int, (r0 : Int) - 100 = r := ⟨_, rfl⟩
  have hrb : -100 ≤ r ∧ r ≤ 100 := by omega
  have e1 : wrap64 ((r0 : Int) - 100) = r := by rw [hr]; exact IntWalk.wrap64_in _ ⟨by omega, by omega⟩
  have e2 : IntKind.i64.wrap ((r0 : Int) - 100) = r := by rw [hr]; exact IntWalk.i64_in _ (by omega)
  clear hpk
  have hr2 := hr
  have HO4 := hid (HO2.out.step HB4.out)
  go_wp2_with fail
  go_loopw [12, 13] (fun o k' wr => ∃ k : Nat, k ≤ m ∧ k' = .int .i64 k ∧ Ow w4 wr 26 2 gP o (lineOf r (s.take k))) (fun _ k' _ => m - (intOf k').toNat)
  case atStart => exact ⟨0, Nat.zero_le _, rfl, Ow.nil _ _ _ _⟩
  case round =>
    obtain ⟨k, hk, rfl, ho⟩ := hrel
    have HO := hid ho; clear ho
    by_cases hlt : k < m
    · obtain ⟨ad3, y, ha3, hy, c0, c2⟩ := (HO4.out.step HO.out.below).sl.atS hlt
      injection ha3 with ha3; subst ad3
      have hyb := HBD.out y (List.mem_of_getElem? hy)
      have HTK := hid (show lineOf r (s.take (k + 1)) = lineOf r (s.take k) ++ [(y.1, r * y.1 + 3)] by rw [take_next hy, line_snoc])
      have hl0 : (lineOf r (s.take k)).length = k := by rw [line_len, List.length_take, HM.out]; omega
      obtain ⟨y0, hy0⟩ : ∃ y, lineOf r (s.take k) = y := ⟨_, rfl⟩
      rw [hy0] at HTK hl0 HO
      have hmb := mul_bd r y.1 100 20000 (by omega) (by omega) (by omega) (by omega)
      obtain ⟨yt, yv⟩ := y
      simp only at c0 c2 hyb hmb HTK
      obtain ⟨R, hR⟩ : ∃ R, r * yt = R := ⟨_, rfl⟩
      rw [hR] at hmb HTK
      obtain ⟨z, hz⟩ : ∃ z, y0 ++ [(yt, R + 3)] = z := ⟨_, rfl⟩
      have hzl : z.length = k + 1 := by rw [← hz, List.length_append, hl0]; rfl
      have HZ := hid hz
      rw [hz] at HTK
      have f1 : wrap64 (r * yt) = R := by rw [hR]; exact IntWalk.wrap64_in _ ⟨by omega, by omega⟩
      have f2 : IntKind.i64.wrap (r * yt) = R := by rw [hR]; exact IntWalk.i64_in _ (by omega)
      have f3 : wrap64 (R + 3) = R + 3 := IntWalk.wrap64_in _ ⟨by omega, by omega⟩
      have f4 : IntKind.i64.wrap (R + 3) = R + 3 := IntWalk.i64_in _ (by omega)
      have i1 : (k : Int) < (m : Int) := by omega
      clear hy hy0 hz hR
      go_wp2_with fail
      go_region_law (refine step_appY elmP gP_one rfl (.tmp 61) (.tmp 76) rfl u12 y0 rfl (HO.out.drew.alloc _) [(yt, R + 3)] z HZ rfl (Sl.fresh _ #[.int .i64 yt, .int .i64 (R + 3)] 26 2 1 rfl) rfl (by simp only [maxLen]; omega) (by omega) ?_; intro A4 c4 w5 hc5 hc6 HN2 _)
      all_goals
        go_wp2
        go_roundw
        case rel => exact ⟨k + 1, by omega, by go_num, by rw [HTK.out]; have h9 := HN2.out; rw [hzl] at h9; exact h9⟩
        case measure => simp [intOf]; omega
    · obtain rfl : k = m := by omega
      have E := hid (show s.take k = s from List.take_of_length_le (by rw [HM.out]; exact Nat.le_refl _))
      rw [E.out] at HO
      have i1 : ¬ (k : Int) < (k : Int) := by omega
      obtain ⟨A6, c6, rfl, hc7, hc8⟩ := HO.out.form
      rw [line_len, HM.out] at HO hc7 ⊢
      have hlt2 := mul_bd r t 100 20000 (by omega) (by omega) (by omega) (by omega)
      obtain ⟨R, hR⟩ : ∃ R, r * t = R := ⟨_, rfl⟩
      have HLR := hid (HLINE.out r)
      rw [hR] at HLR hlt2
      have f1 : wrap64 (r * t) = R := by rw [hR]; exact IntWalk.wrap64_in _ ⟨by omega, by omega⟩
      have f2 : IntKind.i64.wrap (r * t) = R := by rw [hR]; exact IntWalk.i64_in _ (by omega)
      have f3 : wrap64 (R + 3) = R + 3 := IntWalk.wrap64_in _ ⟨by omega, by omega⟩
      have f4 : IntKind.i64.wrap (R + 3) = R + 3 := IntWalk.i64_in _ (by omega)
      have f5 : ((R + 3) != (R + 3)) = false := by simp
      have HF1 := hid f1; have HF2 := hid f2; have HF3 := hid f3; have HF4 := hid f4; have HF5 := hid f5
      clear hR f1 f2 f3 f4 f5 e1 e2 hr hr2
      go_wp2_with fail
      refine (rate_At A6 k c6 (lineOf r s) t i wr (by omega) HO.out.sl (line_near r s HIN.out hrb (fun x hx => by have := HBD.out x hx; omega)) ⟨by omega, by omega⟩ (line_first r s t i HFI.out) (HT.out.below (bgo HO4.out.below HO.out.below))).mono ?_
      rw [HLR.out]
      rintro e w5 ⟨rfl, hb5⟩
      have HO5 := hid (HO4.out.step (bgo' hb5 HO.out.below))
      have d0 : w5.cell? ad = some (.int .i64 (-50)) := by
        obtain ⟨ad', y, ha', hy, d0, d2⟩ := HO5.out.sl.atS (k := 0) (by omega)
        injection ha' with ha'; subst ad'
        rw [HH.out] at hy; injection hy with hy; subst hy
        simpa [Addr.add] using d0
      clear hb5
      simp only
      have j6 : 0 < k := by omega
      have j7 : (0 : Int) < (k : Int) := by omega
      go_wp2_with fail
      refine (rate_At (some ad) k c1 s (-51) 0 w5 (by omega) HO5.out.sl HIN.out ⟨by decide, by decide⟩ ⟨Nat.zero_le _, by simp, fun x hx => by have := HBD.out x (List.mem_of_getElem? hx); omega⟩ (HT.out.below HO5.out.below)).mono ?_
      rw [show atv s (-51) 0 = (0, 6) by unfold atv; rw [HH.out]; rfl]
      rintro e w6 ⟨rfl, hb6⟩
      have HO6 := hid (HO5.out.step hb6)
      have d1 : w6.cell? (ad.add ((k - 1) * 2)) = some (.int .i64 T) := by
        obtain ⟨ad', y, ha', hy, d0, d2⟩ := HO6.out.sl.atS (k := k - 1) (by omega)
        injection ha' with ha'; subst ad'
        rw [HTL.out] at hy; injection hy with hy; subst hy
        exact d0
      clear hb6 d0
      simp only
      have j1 : IntKind.i64.wrap ((k : Int) - 1) = (k : Int) - 1 := IntWalk.i64_in _ (by omega)
      have j3 : (0 : Int) ≤ (k : Int) - 1 := by omega
      have j4 : (k : Int) - 1 < (k : Int) := by omega
      have j5 : ((k : Int) - 1).toNat = k - 1 := by omega
      have j8 : wrap64 ((k : Int) - 1) = (k : Int) - 1 := IntWalk.wrap64_in _ ⟨by omega, by omega⟩
      have j9 : (1 : Int) ≤ (k : Int) := by omega
      have ja : wrap64 (T + 1) = T + 1 := IntWalk.wrap64_in _ ⟨by omega, by omega⟩
      have jb : IntKind.i64.wrap (T + 1) = T + 1 := IntWalk.i64_in _ (by omega)
      go_wp2_with fail
      refine (rate_At (some ad) k c1 s (T + 1) k w6 (by omega) HO6.out.sl HIN.out ⟨by omega, by omega⟩ ⟨by rw [HM.out]; exact Nat.le_refl _, fun j x _ hx => by have := HT4.out x (List.mem_of_getElem? hx); omega, fun x hx => by have := (List.getElem?_eq_some_iff.1 hx).1; rw [HM.out] at this; omega⟩ (HT.out.below HO6.out.below)).mono ?_
      rw [show atv s (T + 1) k = (0, 6) by unfold atv; rw [List.getElem?_eq_none (by rw [HM.out]; exact Nat.le_refl _)]]
      rintro e w7 ⟨rfl, hb7⟩
      have HO7 := hid (HO6.out.step hb7)
      clear hb7 d1 j1 j3 j4 j5 j8 j9 ja jb
      simp only
      have f1 := HF1.out; have f2 := HF2.out; have f3 := HF3.out; have f4 := HF4.out; have f5 := HF5.out
      go_wp2_with fail
      clear f1 f2 f3 f4 f5
      go_loopw [20] (fun k' wr => ∃ q : Nat, q ≤ i ∧ k' = .int .i64 q ∧ Below w7.heap.size w7 wr) (fun k' _ => k - (intOf k').toNat)
      case atStart => exact ⟨0, Nat.zero_le _, rfl, bnil _⟩
      case round =>
        obtain ⟨q, hq, rfl, hb8⟩ := hrel
        have HB8 := hid hb8; clear hb8
        have HO8 := hid (HO7.out.step HB8.out)
        obtain ⟨ad3, z, ha3, hz, c0, c2⟩ := HO8.out.sl.atS (k := q) (by omega)
        injection ha3 with ha3; subst ad3
        have i2 : (q : Int) < (k : Int) := by omega
        have i3 : q < k := by omega
        by_cases hqi : q = i
        · subst hqi
          obtain rfl : z = x := by have := HXI.out; rw [hz] at this; injection this
          rcases HVV.out with ⟨g1, g2⟩ | ⟨g1, g2, y, g3, g4, g5, g6⟩
          · obtain ⟨xt, xv⟩ := z
            simp only at c0 c2 g1 g2
            have h1 : (xt == t) = true := beqT g1
            have h2 : (X == xv) = true := beqT g2
            clear hz HXI HVV g1 g2
            go_wp2
            go_ret
            exact ⟨rfl, HO8.out.below⟩
          · obtain ⟨ad3, y', ha3, hy', d0, d2⟩ := HO8.out.sl.atS (k := q - 1) (by omega)
            injection ha3 with ha3; subst ad3
            obtain rfl : y' = y := by rw [hy'] at g3; injection g3
            obtain ⟨xt, xv⟩ := z
            obtain ⟨yt, yv⟩ := y'
            simp only at c0 c2 d0 d2 g1 g4 g5 g6
            have h1 : (xt == t) = false := beqF g1
            obtain ⟨b1, b2⟩ := between (xv - yv) (t - yt) (xt - yt) (by omega) (by omega)
            have j1 : IntKind.i64.wrap ((q : Int) - 1) = (q : Int) - 1 := IntWalk.i64_in _ (by omega)
            have j3 : (0 : Int) ≤ (q : Int) - 1 := by omega
            have j4 : (q : Int) - 1 < (k : Int) := by omega
            have j5 : ((q : Int) - 1).toNat = q - 1 := by omega
            have j8 : wrap64 ((q : Int) - 1) = (q : Int) - 1 := IntWalk.wrap64_in _ ⟨by omega, by omega⟩
            have j9 : (1 : Int) ≤ (q : Int) := by omega
            have ja : (0 : Int) < (q : Int) := by omega
            have jc : 0 < q := by omega
            have jd : q - 1 < k := by omega
            clear hz hy' HXI HVV g3
            rcases Int.lt_or_le yv xv with hv | hv
            · obtain ⟨b3, b4⟩ := b1 (by omega)
              have l1 : yv ≤ X := by omega
              have l2 : X ≤ xv := by omega
              have l3 : ¬ xv < yv := by omega
              have l4 := decide_eq_true l1
              have l5 := decide_eq_true l2
              clear b1 b2 b3 b4 g6
              go_wp2_with fail
              go_quiet (fail)
              go_wp2
              go_ret
              exact ⟨rfl, below_drewN HO8.out.below _⟩
            · rcases Int.lt_or_le xv yv with hv2 | hv2
              · obtain ⟨b3, b4⟩ := b2 (by omega)
                have l1 : xv ≤ X := by omega
                have l2 : X ≤ yv := by omega
                have l3 : ¬ yv < xv := by omega
                have l4 := decide_eq_true l1
                have l5 := decide_eq_true l2
                clear b1 b2 b3 b4 g6
                go_wp2_with fail
                go_quiet (fail)
                go_wp2
                go_ret
                exact ⟨rfl, below_drewN HO8.out.below _⟩
              · obtain rfl : xv = yv := by omega
                obtain ⟨b3, b4⟩ := b2 (by omega)
                have l1 : xv ≤ X := by omega
                have l2 : X ≤ xv := by omega
                have l3 : ¬ xv < xv := by omega
                have l4 := decide_eq_true l1
                have l5 := decide_eq_true l2
                clear b1 b2 b3 b4 g6 hv hv2
                go_wp2_with fail
                go_quiet (fail)
                go_wp2
                go_ret
                exact ⟨rfl, below_drewN HO8.out.below _⟩
        · have hqi2 : q < i := by omega
          have hzt := HFI.out.2.1 q z hqi2 hz
          by_cases hq0 : q = 0
          · obtain ⟨zt, zv⟩ := z
            simp only at c0 c2 hzt
            have h1 : (zt == t) = false := beqF (by omega)
            subst hq0
            have c00 : wr.cell? ad = some (.int .i64 zt) := by have := c0; simpa [Addr.add] using this
            clear hz
            go_wp2_with fail
            go_roundw
            case rel => exact ⟨1, by omega, by go_num, HB8.out⟩
            case measure => simp [intOf]; omega
          · obtain ⟨ad3, y, ha3, hy, d0, d2⟩ := HO8.out.sl.atS (k := q - 1) (by omega)
            injection ha3 with ha3; subst ad3
            have hyt := HFI.out.2.1 (q - 1) y (by omega) hy
            obtain ⟨zt, zv⟩ := z
            obtain ⟨yt, yv⟩ := y
            simp only at c0 c2 d0 d2 hzt hyt
            have h1 : (zt == t) = false := beqF (by omega)
            have h2 : ¬ t < zt := by omega
            have j1 : IntKind.i64.wrap ((q : Int) - 1) = (q : Int) - 1 := IntWalk.i64_in _ (by omega)
            have j3 : (0 : Int) ≤ (q : Int) - 1 := by omega
            have j4 : (q : Int) - 1 < (k : Int) := by omega
            have j5 : ((q : Int) - 1).toNat = q - 1 := by omega
            have j8 : wrap64 ((q : Int) - 1) = (q : Int) - 1 := IntWalk.wrap64_in _ ⟨by omega, by omega⟩
            have j9 : (1 : Int) ≤ (q : Int) := by omega
            have ja : (0 : Int) < (q : Int) := by omega
            have jc : 0 < q := by omega
            have jd : q - 1 < k := by omega
            clear hz hy
            go_wp2_with fail
            go_roundw
            case rel => exact ⟨q + 1, by omega, by go_num, HB8.out⟩
            case measure => simp [intOf]; omega
end Go.Proofs.YtpoaomjpbjcmbaaDoor
