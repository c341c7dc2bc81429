/-
  CodeOf: its plain function and its walk.
-/
import Derived.Test.YtljdnbdmfhcmpaaDoorVmRun
namespace Go.Proofs.YtljdnbdmfhcmpaaDoor
open Go.RowKit
set_option linter.unusedVariables false

def opOf (m : Nat) (x : Op5) : Op5 :=
  if x.k % 17 = 0 then ⟨1, x.a % 4, x.b % 9 - 3, 0, 0⟩
  else if x.k % 17 = 1 then ⟨2, x.a % 4, x.b % 4, 0, 0⟩
  else if x.k % 17 = 9 then ⟨10, x.a % ((m : Int) + 1), 0, 0, 0⟩
  else if x.k % 17 = 10 then ⟨11, x.a % 4, x.b % ((m : Int) + 1), 0, 0⟩
  else if x.k % 17 = 11 then ⟨12, x.a % 4, x.b % ((m : Int) + 1), 0, 0⟩
  else if x.k % 17 = 12 then ⟨13, x.a % 4, 5, x.c % 6, 0⟩
  else if x.k % 17 = 13 then ⟨14, x.a % 4, 5, x.c % 6, 0⟩
  else if x.k % 17 = 14 then ⟨15, x.a % 4, 5, x.c % 6, x.d % 4⟩
  else if x.k % 17 = 15 then ⟨16, x.a % 4, 0, 0, 0⟩
  else if x.k % 17 = 16 then ⟨17, 0, 0, 0, 0⟩
  else ⟨1 + x.k % 17, x.a % 4, x.b % 4, x.c % 4, 0⟩
def codeOf (ls : List Op5) (n : Nat) : List Op5 := (ls.take n).map (opOf (min ls.length n))
theorem codeOf_len (ls : List Op5) (n : Nat) : (codeOf ls n).length = min ls.length n := by unfold codeOf; rw [List.length_map, List.length_take]; omega
theorem opOf_sh (m : Nat) (x : Op5) : OpSh m (opOf m x) := by
  have h0 := Int.emod_nonneg x.k (show (17 : Int) ≠ 0 by decide)
  have h1 := Int.emod_lt_of_pos x.k (show (0 : Int) < 17 by decide)
  have ha0 := Int.emod_nonneg x.a (show (4 : Int) ≠ 0 by decide)
  have ha1 := Int.emod_lt_of_pos x.a (show (0 : Int) < 4 by decide)
  have hb0 := Int.emod_nonneg x.b (show (4 : Int) ≠ 0 by decide)
  have hb1 := Int.emod_lt_of_pos x.b (show (0 : Int) < 4 by decide)
  have hc0 := Int.emod_nonneg x.c (show (4 : Int) ≠ 0 by decide)
  have hc1 := Int.emod_lt_of_pos x.c (show (0 : Int) < 4 by decide)
  have hd0 := Int.emod_nonneg x.d (show (4 : Int) ≠ 0 by decide)
  have hd1 := Int.emod_lt_of_pos x.d (show (0 : Int) < 4 by decide)
  have hm0 := Int.emod_nonneg x.a (show (m : Int) + 1 ≠ 0 by omega)
  have hm1 := Int.emod_lt_of_pos x.a (show (0 : Int) < (m : Int) + 1 by omega)
  have hn0 := Int.emod_nonneg x.b (show (m : Int) + 1 ≠ 0 by omega)
  have hn1 := Int.emod_lt_of_pos x.b (show (0 : Int) < (m : Int) + 1 by omega)
  unfold opOf
  repeat' split
  all_goals exact ⟨by dsimp only; omega, by dsimp only; omega, by dsimp only; omega, by dsimp only; omega, by dsimp only; omega⟩
theorem codeOf_sh (ls : List Op5) (n : Nat) : ∀ o ∈ codeOf ls n, OpSh (codeOf ls n).length o := by
  intro o ho
  rw [codeOf_len]
  unfold codeOf at ho
  obtain ⟨x, _, rfl⟩ := List.mem_map.1 ho
  exact opOf_sh _ x
/-- a word's place in a drawn code -/
theorem opOf_in (m : Nat) (x : Op5) : (opOf m x).k ≠ 10 → (opOf m x).k ≠ 17 → 0 ≤ (opOf m x).a ∧ (opOf m x).a < 4 := by
  have ha0 := Int.emod_nonneg x.a (show (4 : Int) ≠ 0 by decide)
  have ha1 := Int.emod_lt_of_pos x.a (show (0 : Int) < 4 by decide)
  unfold opOf
  repeat' split
  all_goals (dsimp only; intro _ _; omega)
theorem opOf_regs (m : Nat) (x : Op5) : OpIn (opOf m x) ∧ ((opOf m x).k = 13 ∨ (opOf m x).k = 14 ∨ (opOf m x).k = 15 → (opOf m x).b = 5 ∧ 0 ≤ (opOf m x).c ∧ (opOf m x).c < 6) := by
  have h0 := Int.emod_nonneg x.k (show (17 : Int) ≠ 0 by decide)
  have h1 := Int.emod_lt_of_pos x.k (show (0 : Int) < 17 by decide)
  have ha0 := Int.emod_nonneg x.a (show (4 : Int) ≠ 0 by decide)
  have ha1 := Int.emod_lt_of_pos x.a (show (0 : Int) < 4 by decide)
  have hb0 := Int.emod_nonneg x.b (show (4 : Int) ≠ 0 by decide)
  have hb1 := Int.emod_lt_of_pos x.b (show (0 : Int) < 4 by decide)
  have hc0 := Int.emod_nonneg x.c (show (4 : Int) ≠ 0 by decide)
  have hc1 := Int.emod_lt_of_pos x.c (show (0 : Int) < 4 by decide)
  have hd0 := Int.emod_nonneg x.d (show (4 : Int) ≠ 0 by decide)
  have hd1 := Int.emod_lt_of_pos x.d (show (0 : Int) < 4 by decide)
  have h60 := Int.emod_nonneg x.c (show (6 : Int) ≠ 0 by decide)
  have h61 := Int.emod_lt_of_pos x.c (show (0 : Int) < 6 by decide)
  unfold opOf OpIn
  repeat' split
  all_goals (dsimp only; omega)
theorem elmO : Elm Tryd.prog 24 35 5 40 := elm_of (z := .agg #[.int .i64 0, .int .i64 0, .int .i64 0, .int .i64 0, .int .i64 0]) Tryd.underlying24 (by kernel_rfl) rfl (by decide)
theorem gO_one (x : Op5) : ∀ u ∈ gO x, u.oneCell' = true := by intro u hu; simp at hu; rcases hu with rfl | rfl | rfl | rfl | rfl <;> rfl
def LineOk (x : Op5) : Prop := (-9223372036854775808 ≤ x.k ∧ x.k ≤ 9223372036854775807) ∧ (-9223372036854775808 ≤ x.a ∧ x.a ≤ 9223372036854775807) ∧ (-9223372036854775808 ≤ x.b ∧ x.b ≤ 9223372036854775807) ∧ (-9223372036854775808 ≤ x.c ∧ x.c ≤ 9223372036854775807) ∧ (-9223372036854775808 ≤ x.d ∧ x.d ≤ 9223372036854775807)
/-- the lines and their bounds, read at a place -/
structure Lines (w : World) (A : Option Addr) (n : Nat) (ls : List Op5) : Prop where
  sl : Sl w 5 A n (ls.flatMap gO)
  ok : ∀ x ∈ ls, LineOk x
theorem Lines.below {w w' : World} {A : Option Addr} {n : Nat} {ls : List Op5} (h : Lines w A n ls) (hb : Below w.heap.size w w') : Lines w' A n ls := ⟨h.sl.below hb, h.ok⟩
theorem Lines.len {w : World} {A : Option Addr} {n : Nat} {ls : List Op5} (h : Lines w A n ls) : ls.length = n := by have := h.sl.1; rw [flatMap_len gO 5 (fun _ => rfl)] at this; omega
set_option maxHeartbeats 4000000 in
set_option maxRecDepth 100000 in
theorem code_of1 (A : Option Addr) (n c N : Nat) (ls : List Op5) (w : World) (hn : n ≤ c) (hc : c ≤ maxLen) (hN : N ≤ 200) (hQ : N < n) (h : Lines w A n ls) :
    Calls Tryd.prog 11 #[.slice A n c, .int .i64 (N : Int)] w fun e w' => ∃ v, e = .returned v ∧ Ow w w' 35 5 gO v (codeOf ls N) := by
  have H := hid h
  have HL := hid h.len
  clear h
  unfold maxLen at hc
  have hQ2 : (N : Int) < (n : Int) := by omega
  have HE := hid (show codeOf ls N = (ls.take N).map (opOf N) by
    unfold codeOf
    rw [HL.out]
    rw [show min n N = N by omega])
  go_enter Tryd.func11, Tryd.ntmps11
  go_wp2
  go_loopw [6, 7] (fun v i wr => ∃ (k : Nat) (A1 : Option Addr) (c1 : Nat), k ≤ N ∧ i = .int .i64 k ∧ v = .slice A1 k c1 ∧ Hid (Ow w wr 35 5 gO (.slice A1 k c1) ((ls.take k).map (opOf N)))) (fun _ i _ => N - (intOf i).toNat)
  case atStart => exact ⟨0, none, 0, Nat.zero_le _, rfl, rfl, hid (Ow.nil _ _ _ _)⟩
  case round =>
    obtain ⟨k, A1, c1, hk, rfl, rfl, HO⟩ := hrel
    by_cases hlt : k < N
    · have hkn : k < n := by omega
      obtain ⟨ad, x, rfl, hx, d1, d2, d3, d4, d5⟩ := (H.out.sl.below HO.out.below).opAt hkn
      obtain ⟨⟨xk0, xk1⟩, ⟨xa0, xa1⟩, ⟨xb0, xb1⟩, ⟨xc0, xc1⟩, xd0, xd1⟩ := H.out.ok x (List.mem_of_getElem? hx)
      have HX := hid hx
      clear hx
      obtain ⟨k0, xa, xb, xc, xd⟩ := x
      simp only at d1 d2 d3 d4 d5 xk0 xk1 xa0 xa1 xb0 xb1 xc0 xc1 xd0 xd1
      have i1 : (k : Int) < (N : Int) := by omega
      have i2 : (k : Int) < (n : Int) := by omega
      have HY := hid (show (ls.take (k + 1)).map (opOf N) = (ls.take k).map (opOf N) ++ [opOf N ⟨k0, xa, xb, xc, xd⟩] by rw [take_next HX.out, List.map_append]; rfl)
      have HYL := hid (show ((ls.take k).map (opOf N)).length = k by rw [List.length_map, List.length_take, HL.out]; omega)
      generalize hlk : (ls.take k).map (opOf N) = lk at *
      clear hlk
      have q0 := Int.emod_nonneg k0 (show (17 : Int) ≠ 0 by decide)
      have q1 := Int.emod_lt_of_pos k0 (show (0 : Int) < 17 by decide)
      go_wp2_with fail
      refine (picked0 k0 17 _ (by decide) xk0 xk1 (by decide)).mono ?_
      rintro e w9 ⟨rfl, rfl⟩
      obtain ⟨y, hy⟩ : ∃ y, lk ++ [opOf N ⟨k0, xa, xb, xc, xd⟩] = y := ⟨_, rfl⟩
      have hyl : y.length = k + 1 := by rw [← hy, List.length_append, HYL.out]; rfl
      have HYY := hid hy; have HYN := hid hyl
      clear hy hyl
      have ha0 := Int.emod_nonneg xa (show (4 : Int) ≠ 0 by decide)
      have ha1 := Int.emod_lt_of_pos xa (show (0 : Int) < 4 by decide)
      obtain ⟨K, hK⟩ : ∃ K, k0 % 17 = K := ⟨_, rfl⟩
      have HK := hid hK
      rw [hK] at q0 q1 ⊢
      clear hK
      obtain ⟨o, ho⟩ : ∃ o, opOf N ⟨k0, xa, xb, xc, xd⟩ = o := ⟨_, rfl⟩
      rw [ho] at HYY
      have HOO : Hid (opOf N ⟨k0, xa, xb, xc, xd⟩ = o) := hid ho
      clear ho
      by_cases hk0 : K = 0
      · subst hk0
        have E : o = ⟨1, xa % 4, xb % 9 - 3, 0, 0⟩ := by
          rw [← HOO.out]; unfold opOf; simp only [HK.out]
          rfl
        subst E
        have hb0 := Int.emod_nonneg xb (show (9 : Int) ≠ 0 by decide)
        have hb1 := Int.emod_lt_of_pos xb (show (0 : Int) < 9 by decide)
        go_wp2_with fail
        refine (picked0 xa 4 _ (by omega) xa0 xa1 (by omega)).mono ?_
        rintro e w9 ⟨rfl, rfl⟩
        go_wp2_with fail
        refine (picked0 xb 9 _ (by omega) xb0 xb1 (by omega)).mono ?_
        rintro e w9 ⟨rfl, rfl⟩
        go_wp2_with (at_builtin; refine wpList_appY elmO gO_one rfl (.tmp 119) (.tmp 121) rfl (.slice A1 k c1) lk rfl (((HO.out.alloc _).alloc _).alloc _) [⟨1, xa % 4, xb % 9 - 3, 0, 0⟩] y HYY rfl (Sl.fresh' _ #[_, _, _, _, _] 35 5 1 _ (by simp) rfl) rfl (by rw [HYN.out]; simp only [maxLen]; omega) (by rw [HYN.out]; omega) ?_; intro A4 c4 w4 hc4 hc5 HN1 _ _)
        go_roundw
        case rel => exact ⟨k + 1, A4, c4, by omega, by go_num, by rw [HYN.out], hid (by have hn1 := HN1.out; rw [HYN.out] at hn1; rw [HY.out, HOO.out, HYY.out]; exact hn1)⟩
        case measure => simp [intOf]; omega
      by_cases hk1 : K = 1
      · subst hk1
        have E : o = ⟨2, xa % 4, xb % 4, 0, 0⟩ := by
          rw [← HOO.out]; unfold opOf; simp only [HK.out]
          rfl
        subst E
        go_wp2_with fail
        refine (picked0 xa 4 _ (by omega) xa0 xa1 (by omega)).mono ?_
        rintro e w9 ⟨rfl, rfl⟩
        go_wp2_with fail
        refine (picked0 xb 4 _ (by omega) xb0 xb1 (by omega)).mono ?_
        rintro e w9 ⟨rfl, rfl⟩
        go_wp2_with (at_builtin; refine wpList_appY elmO gO_one rfl (.tmp 119) (.tmp 121) rfl (.slice A1 k c1) lk rfl (((HO.out.alloc _).alloc _).alloc _) [⟨2, xa % 4, xb % 4, 0, 0⟩] y HYY rfl (Sl.fresh' _ #[_, _, _, _, _] 35 5 1 _ (by simp) rfl) rfl (by rw [HYN.out]; simp only [maxLen]; omega) (by rw [HYN.out]; omega) ?_; intro A4 c4 w4 hc4 hc5 HN1 _ _)
        go_roundw
        case rel => exact ⟨k + 1, A4, c4, by omega, by go_num, by rw [HYN.out], hid (by have hn1 := HN1.out; rw [HYN.out] at hn1; rw [HY.out, HOO.out, HYY.out]; exact hn1)⟩
        case measure => simp [intOf]; omega
      by_cases hk9 : K = 9
      · subst hk9
        have E : o = ⟨10, xa % ((N : Int) + 1), 0, 0, 0⟩ := by
          rw [← HOO.out]; unfold opOf; simp only [HK.out]
          rfl
        subst E
        go_wp2_with fail
        refine (picked0 xa ((N : Int) + 1) _ (by omega) xa0 xa1 (by omega)).mono ?_
        rintro e w9 ⟨rfl, rfl⟩
        go_wp2_with (at_builtin; refine wpList_appY elmO gO_one rfl (.tmp 119) (.tmp 121) rfl (.slice A1 k c1) lk rfl (((HO.out.alloc _).alloc _).alloc _) [⟨10, xa % ((N : Int) + 1), 0, 0, 0⟩] y HYY rfl (Sl.fresh' _ #[_, _, _, _, _] 35 5 1 _ (by simp) rfl) rfl (by rw [HYN.out]; simp only [maxLen]; omega) (by rw [HYN.out]; omega) ?_; intro A4 c4 w4 hc4 hc5 HN1 _ _)
        go_roundw
        case rel => exact ⟨k + 1, A4, c4, by omega, by go_num, by rw [HYN.out], hid (by have hn1 := HN1.out; rw [HYN.out] at hn1; rw [HY.out, HOO.out, HYY.out]; exact hn1)⟩
        case measure => simp [intOf]; omega
      by_cases hk10 : K = 10
      · subst hk10
        have E : o = ⟨11, xa % 4, xb % ((N : Int) + 1), 0, 0⟩ := by
          rw [← HOO.out]; unfold opOf; simp only [HK.out]
          rfl
        subst E
        go_wp2_with fail
        refine (picked0 xa 4 _ (by omega) xa0 xa1 (by omega)).mono ?_
        rintro e w9 ⟨rfl, rfl⟩
        go_wp2_with fail
        refine (picked0 xb ((N : Int) + 1) _ (by omega) xb0 xb1 (by omega)).mono ?_
        rintro e w9 ⟨rfl, rfl⟩
        go_wp2_with (at_builtin; refine wpList_appY elmO gO_one rfl (.tmp 119) (.tmp 121) rfl (.slice A1 k c1) lk rfl (((HO.out.alloc _).alloc _).alloc _) [⟨11, xa % 4, xb % ((N : Int) + 1), 0, 0⟩] y HYY rfl (Sl.fresh' _ #[_, _, _, _, _] 35 5 1 _ (by simp) rfl) rfl (by rw [HYN.out]; simp only [maxLen]; omega) (by rw [HYN.out]; omega) ?_; intro A4 c4 w4 hc4 hc5 HN1 _ _)
        go_roundw
        case rel => exact ⟨k + 1, A4, c4, by omega, by go_num, by rw [HYN.out], hid (by have hn1 := HN1.out; rw [HYN.out] at hn1; rw [HY.out, HOO.out, HYY.out]; exact hn1)⟩
        case measure => simp [intOf]; omega
      by_cases hk11 : K = 11
      · subst hk11
        have E : o = ⟨12, xa % 4, xb % ((N : Int) + 1), 0, 0⟩ := by
          rw [← HOO.out]; unfold opOf; simp only [HK.out]
          rfl
        subst E
        go_wp2_with fail
        refine (picked0 xa 4 _ (by omega) xa0 xa1 (by omega)).mono ?_
        rintro e w9 ⟨rfl, rfl⟩
        go_wp2_with fail
        refine (picked0 xb ((N : Int) + 1) _ (by omega) xb0 xb1 (by omega)).mono ?_
        rintro e w9 ⟨rfl, rfl⟩
        go_wp2_with (at_builtin; refine wpList_appY elmO gO_one rfl (.tmp 119) (.tmp 121) rfl (.slice A1 k c1) lk rfl (((HO.out.alloc _).alloc _).alloc _) [⟨12, xa % 4, xb % ((N : Int) + 1), 0, 0⟩] y HYY rfl (Sl.fresh' _ #[_, _, _, _, _] 35 5 1 _ (by simp) rfl) rfl (by rw [HYN.out]; simp only [maxLen]; omega) (by rw [HYN.out]; omega) ?_; intro A4 c4 w4 hc4 hc5 HN1 _ _)
        go_roundw
        case rel => exact ⟨k + 1, A4, c4, by omega, by go_num, by rw [HYN.out], hid (by have hn1 := HN1.out; rw [HYN.out] at hn1; rw [HY.out, HOO.out, HYY.out]; exact hn1)⟩
        case measure => simp [intOf]; omega
      by_cases hk12 : K = 12
      · subst hk12
        have E : o = ⟨13, xa % 4, 5, xc % 6, 0⟩ := by
          rw [← HOO.out]; unfold opOf; simp only [HK.out]
          rfl
        subst E
        go_wp2_with fail
        refine (picked0 xa 4 _ (by omega) xa0 xa1 (by omega)).mono ?_
        rintro e w9 ⟨rfl, rfl⟩
        go_wp2_with fail
        refine (picked0 xc 6 _ (by omega) xc0 xc1 (by omega)).mono ?_
        rintro e w9 ⟨rfl, rfl⟩
        go_wp2_with (at_builtin; refine wpList_appY elmO gO_one rfl (.tmp 119) (.tmp 121) rfl (.slice A1 k c1) lk rfl (((HO.out.alloc _).alloc _).alloc _) [⟨13, xa % 4, 5, xc % 6, 0⟩] y HYY rfl (Sl.fresh' _ #[_, _, _, _, _] 35 5 1 _ (by simp) rfl) rfl (by rw [HYN.out]; simp only [maxLen]; omega) (by rw [HYN.out]; omega) ?_; intro A4 c4 w4 hc4 hc5 HN1 _ _)
        go_roundw
        case rel => exact ⟨k + 1, A4, c4, by omega, by go_num, by rw [HYN.out], hid (by have hn1 := HN1.out; rw [HYN.out] at hn1; rw [HY.out, HOO.out, HYY.out]; exact hn1)⟩
        case measure => simp [intOf]; omega
      by_cases hk13 : K = 13
      · subst hk13
        have E : o = ⟨14, xa % 4, 5, xc % 6, 0⟩ := by
          rw [← HOO.out]; unfold opOf; simp only [HK.out]
          rfl
        subst E
        go_wp2_with fail
        refine (picked0 xa 4 _ (by omega) xa0 xa1 (by omega)).mono ?_
        rintro e w9 ⟨rfl, rfl⟩
        go_wp2_with fail
        refine (picked0 xc 6 _ (by omega) xc0 xc1 (by omega)).mono ?_
        rintro e w9 ⟨rfl, rfl⟩
        go_wp2_with (at_builtin; refine wpList_appY elmO gO_one rfl (.tmp 119) (.tmp 121) rfl (.slice A1 k c1) lk rfl (((HO.out.alloc _).alloc _).alloc _) [⟨14, xa % 4, 5, xc % 6, 0⟩] y HYY rfl (Sl.fresh' _ #[_, _, _, _, _] 35 5 1 _ (by simp) rfl) rfl (by rw [HYN.out]; simp only [maxLen]; omega) (by rw [HYN.out]; omega) ?_; intro A4 c4 w4 hc4 hc5 HN1 _ _)
        go_roundw
        case rel => exact ⟨k + 1, A4, c4, by omega, by go_num, by rw [HYN.out], hid (by have hn1 := HN1.out; rw [HYN.out] at hn1; rw [HY.out, HOO.out, HYY.out]; exact hn1)⟩
        case measure => simp [intOf]; omega
      by_cases hk14 : K = 14
      · subst hk14
        have E : o = ⟨15, xa % 4, 5, xc % 6, xd % 4⟩ := by
          rw [← HOO.out]; unfold opOf; simp only [HK.out]
          rfl
        subst E
        go_wp2_with fail
        refine (picked0 xa 4 _ (by omega) xa0 xa1 (by omega)).mono ?_
        rintro e w9 ⟨rfl, rfl⟩
        go_wp2_with fail
        refine (picked0 xc 6 _ (by omega) xc0 xc1 (by omega)).mono ?_
        rintro e w9 ⟨rfl, rfl⟩
        go_wp2_with fail
        refine (picked0 xd 4 _ (by omega) xd0 xd1 (by omega)).mono ?_
        rintro e w9 ⟨rfl, rfl⟩
        go_wp2_with (at_builtin; refine wpList_appY elmO gO_one rfl (.tmp 119) (.tmp 121) rfl (.slice A1 k c1) lk rfl (((HO.out.alloc _).alloc _).alloc _) [⟨15, xa % 4, 5, xc % 6, xd % 4⟩] y HYY rfl (Sl.fresh' _ #[_, _, _, _, _] 35 5 1 _ (by simp) rfl) rfl (by rw [HYN.out]; simp only [maxLen]; omega) (by rw [HYN.out]; omega) ?_; intro A4 c4 w4 hc4 hc5 HN1 _ _)
        go_roundw
        case rel => exact ⟨k + 1, A4, c4, by omega, by go_num, by rw [HYN.out], hid (by have hn1 := HN1.out; rw [HYN.out] at hn1; rw [HY.out, HOO.out, HYY.out]; exact hn1)⟩
        case measure => simp [intOf]; omega
      by_cases hk15 : K = 15
      · subst hk15
        have E : o = ⟨16, xa % 4, 0, 0, 0⟩ := by
          rw [← HOO.out]; unfold opOf; simp only [HK.out]
          rfl
        subst E
        go_wp2_with fail
        refine (picked0 xa 4 _ (by omega) xa0 xa1 (by omega)).mono ?_
        rintro e w9 ⟨rfl, rfl⟩
        go_wp2_with (at_builtin; refine wpList_appY elmO gO_one rfl (.tmp 119) (.tmp 121) rfl (.slice A1 k c1) lk rfl (((HO.out.alloc _).alloc _).alloc _) [⟨16, xa % 4, 0, 0, 0⟩] y HYY rfl (Sl.fresh' _ #[_, _, _, _, _] 35 5 1 _ (by simp) rfl) rfl (by rw [HYN.out]; simp only [maxLen]; omega) (by rw [HYN.out]; omega) ?_; intro A4 c4 w4 hc4 hc5 HN1 _ _)
        go_roundw
        case rel => exact ⟨k + 1, A4, c4, by omega, by go_num, by rw [HYN.out], hid (by have hn1 := HN1.out; rw [HYN.out] at hn1; rw [HY.out, HOO.out, HYY.out]; exact hn1)⟩
        case measure => simp [intOf]; omega
      by_cases hk16 : K = 16
      · subst hk16
        have E : o = ⟨17, 0, 0, 0, 0⟩ := by
          rw [← HOO.out]; unfold opOf; simp only [HK.out]
          rfl
        subst E
        go_wp2_with (at_builtin; refine wpList_appY elmO gO_one rfl (.tmp 119) (.tmp 121) rfl (.slice A1 k c1) lk rfl (((HO.out.alloc _).alloc _).alloc _) [⟨17, 0, 0, 0, 0⟩] y HYY rfl (Sl.fresh' _ #[_, _, _, _, _] 35 5 1 _ (by simp) rfl) rfl (by rw [HYN.out]; simp only [maxLen]; omega) (by rw [HYN.out]; omega) ?_; intro A4 c4 w4 hc4 hc5 HN1 _ _)
        go_roundw
        case rel => exact ⟨k + 1, A4, c4, by omega, by go_num, by rw [HYN.out], hid (by have hn1 := HN1.out; rw [HYN.out] at hn1; rw [HY.out, HOO.out, HYY.out]; exact hn1)⟩
        case measure => simp [intOf]; omega
      have j0 : ((1 + K == 1) = false) := by simp; omega
      have j1 : ((1 + K == 2) = false) := by simp; omega
      have j9 : ((1 + K == 10) = false) := by simp; omega
      have j10 : ((1 + K == 11) = false) := by simp; omega
      have j11 : ((1 + K == 12) = false) := by simp; omega
      have j12 : ((1 + K == 13) = false) := by simp; omega
      have j13 : ((1 + K == 14) = false) := by simp; omega
      have j14 : ((1 + K == 15) = false) := by simp; omega
      have j15 : ((1 + K == 16) = false) := by simp; omega
      have j16 : ((1 + K == 17) = false) := by simp; omega
      have E : o = ⟨1 + K, xa % 4, xb % 4, xc % 4, 0⟩ := by
        rw [← HOO.out]; unfold opOf; simp only [HK.out]
        rw [if_neg (by omega), if_neg (by omega), if_neg (by omega), if_neg (by omega), if_neg (by omega), if_neg (by omega), if_neg (by omega), if_neg (by omega), if_neg (by omega), if_neg (by omega)]
      subst E
      go_wp2_with fail
      refine (picked0 xa 4 _ (by omega) xa0 xa1 (by omega)).mono ?_
      rintro e w9 ⟨rfl, rfl⟩
      go_wp2_with fail
      refine (picked0 xb 4 _ (by omega) xb0 xb1 (by omega)).mono ?_
      rintro e w9 ⟨rfl, rfl⟩
      go_wp2_with fail
      refine (picked0 xc 4 _ (by omega) xc0 xc1 (by omega)).mono ?_
      rintro e w9 ⟨rfl, rfl⟩
      go_wp2_with (at_builtin; refine wpList_appY elmO gO_one rfl (.tmp 119) (.tmp 121) rfl (.slice A1 k c1) lk rfl (((HO.out.alloc _).alloc _).alloc _) [⟨1 + K, xa % 4, xb % 4, xc % 4, 0⟩] y HYY rfl (Sl.fresh' _ #[_, _, _, _, _] 35 5 1 _ (by simp) rfl) rfl (by rw [HYN.out]; simp only [maxLen]; omega) (by rw [HYN.out]; omega) ?_; intro A4 c4 w4 hc4 hc5 HN1 _ _)
      go_roundw
      case rel => exact ⟨k + 1, A4, c4, by omega, by go_num, by rw [HYN.out], hid (by have hn1 := HN1.out; rw [HYN.out] at hn1; rw [HY.out, HOO.out, HYY.out]; exact hn1)⟩
      case measure => simp [intOf]; omega
    · obtain rfl : k = N := by omega
      have i1 : ¬ (k : Int) < (k : Int) := by omega
      go_wp2
      go_ret
      exact ⟨_, rfl, by rw [HE.out]; exact HO.out⟩
set_option maxHeartbeats 4000000 in
set_option maxRecDepth 100000 in
theorem code_of2 (A : Option Addr) (n c N : Nat) (ls : List Op5) (w : World) (hn : n ≤ c) (hc : c ≤ maxLen) (hN : N ≤ 200) (hQ : n ≤ N) (h : Lines w A n ls) :
    Calls Tryd.prog 11 #[.slice A n c, .int .i64 (N : Int)] w fun e w' => ∃ v, e = .returned v ∧ Ow w w' 35 5 gO v (codeOf ls N) := by
  have H := hid h
  have HL := hid h.len
  clear h
  unfold maxLen at hc
  have hQ2 : ¬ (N : Int) < (n : Int) := by omega
  have HE := hid (show codeOf ls N = (ls.take n).map (opOf n) by
    unfold codeOf
    rw [HL.out]
    rw [show min n N = n by omega, List.take_of_length_le (by rw [HL.out]; exact hQ), List.take_of_length_le (by rw [HL.out]; omega)])
  go_enter Tryd.func11, Tryd.ntmps11
  go_wp2
  go_loopw [6, 7] (fun v i wr => ∃ (k : Nat) (A1 : Option Addr) (c1 : Nat), k ≤ n ∧ i = .int .i64 k ∧ v = .slice A1 k c1 ∧ Hid (Ow w wr 35 5 gO (.slice A1 k c1) ((ls.take k).map (opOf n)))) (fun _ i _ => n - (intOf i).toNat)
  case atStart => exact ⟨0, none, 0, Nat.zero_le _, rfl, rfl, hid (Ow.nil _ _ _ _)⟩
  case round =>
    obtain ⟨k, A1, c1, hk, rfl, rfl, HO⟩ := hrel
    by_cases hlt : k < n
    · have hkn : k < n := by omega
      obtain ⟨ad, x, rfl, hx, d1, d2, d3, d4, d5⟩ := (H.out.sl.below HO.out.below).opAt hkn
      obtain ⟨⟨xk0, xk1⟩, ⟨xa0, xa1⟩, ⟨xb0, xb1⟩, ⟨xc0, xc1⟩, xd0, xd1⟩ := H.out.ok x (List.mem_of_getElem? hx)
      have HX := hid hx
      clear hx
      obtain ⟨k0, xa, xb, xc, xd⟩ := x
      simp only at d1 d2 d3 d4 d5 xk0 xk1 xa0 xa1 xb0 xb1 xc0 xc1 xd0 xd1
      have i1 : (k : Int) < (n : Int) := by omega
      have i2 : (k : Int) < (n : Int) := by omega
      have HY := hid (show (ls.take (k + 1)).map (opOf n) = (ls.take k).map (opOf n) ++ [opOf n ⟨k0, xa, xb, xc, xd⟩] by rw [take_next HX.out, List.map_append]; rfl)
      have HYL := hid (show ((ls.take k).map (opOf n)).length = k by rw [List.length_map, List.length_take, HL.out]; omega)
      generalize hlk : (ls.take k).map (opOf n) = lk at *
      clear hlk
      have q0 := Int.emod_nonneg k0 (show (17 : Int) ≠ 0 by decide)
      have q1 := Int.emod_lt_of_pos k0 (show (0 : Int) < 17 by decide)
      go_wp2_with fail
      refine (picked0 k0 17 _ (by decide) xk0 xk1 (by decide)).mono ?_
      rintro e w9 ⟨rfl, rfl⟩
      obtain ⟨y, hy⟩ : ∃ y, lk ++ [opOf n ⟨k0, xa, xb, xc, xd⟩] = y := ⟨_, rfl⟩
      have hyl : y.length = k + 1 := by rw [← hy, List.length_append, HYL.out]; rfl
      have HYY := hid hy; have HYN := hid hyl
      clear hy hyl
      have ha0 := Int.emod_nonneg xa (show (4 : Int) ≠ 0 by decide)
      have ha1 := Int.emod_lt_of_pos xa (show (0 : Int) < 4 by decide)
      obtain ⟨K, hK⟩ : ∃ K, k0 % 17 = K := ⟨_, rfl⟩
      have HK := hid hK
      rw [hK] at q0 q1 ⊢
      clear hK
      obtain ⟨o, ho⟩ : ∃ o, opOf n ⟨k0, xa, xb, xc, xd⟩ = o := ⟨_, rfl⟩
      rw [ho] at HYY
      have HOO : Hid (opOf n ⟨k0, xa, xb, xc, xd⟩ = o) := hid ho
      clear ho
      by_cases hk0 : K = 0
      · subst hk0
        have E : o = ⟨1, xa % 4, xb % 9 - 3, 0, 0⟩ := by
          rw [← HOO.out]; unfold opOf; simp only [HK.out]
          rfl
        subst E
        have hb0 := Int.emod_nonneg xb (show (9 : Int) ≠ 0 by decide)
        have hb1 := Int.emod_lt_of_pos xb (show (0 : Int) < 9 by decide)
        go_wp2_with fail
        refine (picked0 xa 4 _ (by omega) xa0 xa1 (by omega)).mono ?_
        rintro e w9 ⟨rfl, rfl⟩
        go_wp2_with fail
        refine (picked0 xb 9 _ (by omega) xb0 xb1 (by omega)).mono ?_
        rintro e w9 ⟨rfl, rfl⟩
        go_wp2_with (at_builtin; refine wpList_appY elmO gO_one rfl (.tmp 119) (.tmp 121) rfl (.slice A1 k c1) lk rfl (((HO.out.alloc _).alloc _).alloc _) [⟨1, xa % 4, xb % 9 - 3, 0, 0⟩] y HYY rfl (Sl.fresh' _ #[_, _, _, _, _] 35 5 1 _ (by simp) rfl) rfl (by rw [HYN.out]; simp only [maxLen]; omega) (by rw [HYN.out]; omega) ?_; intro A4 c4 w4 hc4 hc5 HN1 _ _)
        go_roundw
        case rel => exact ⟨k + 1, A4, c4, by omega, by go_num, by rw [HYN.out], hid (by have hn1 := HN1.out; rw [HYN.out] at hn1; rw [HY.out, HOO.out, HYY.out]; exact hn1)⟩
        case measure => simp [intOf]; omega
      by_cases hk1 : K = 1
      · subst hk1
        have E : o = ⟨2, xa % 4, xb % 4, 0, 0⟩ := by
          rw [← HOO.out]; unfold opOf; simp only [HK.out]
          rfl
        subst E
        go_wp2_with fail
        refine (picked0 xa 4 _ (by omega) xa0 xa1 (by omega)).mono ?_
        rintro e w9 ⟨rfl, rfl⟩
        go_wp2_with fail
        refine (picked0 xb 4 _ (by omega) xb0 xb1 (by omega)).mono ?_
        rintro e w9 ⟨rfl, rfl⟩
        go_wp2_with (at_builtin; refine wpList_appY elmO gO_one rfl (.tmp 119) (.tmp 121) rfl (.slice A1 k c1) lk rfl (((HO.out.alloc _).alloc _).alloc _) [⟨2, xa % 4, xb % 4, 0, 0⟩] y HYY rfl (Sl.fresh' _ #[_, _, _, _, _] 35 5 1 _ (by simp) rfl) rfl (by rw [HYN.out]; simp only [maxLen]; omega) (by rw [HYN.out]; omega) ?_; intro A4 c4 w4 hc4 hc5 HN1 _ _)
        go_roundw
        case rel => exact ⟨k + 1, A4, c4, by omega, by go_num, by rw [HYN.out], hid (by have hn1 := HN1.out; rw [HYN.out] at hn1; rw [HY.out, HOO.out, HYY.out]; exact hn1)⟩
        case measure => simp [intOf]; omega
      by_cases hk9 : K = 9
      · subst hk9
        have E : o = ⟨10, xa % ((n : Int) + 1), 0, 0, 0⟩ := by
          rw [← HOO.out]; unfold opOf; simp only [HK.out]
          rfl
        subst E
        go_wp2_with fail
        refine (picked0 xa ((n : Int) + 1) _ (by omega) xa0 xa1 (by omega)).mono ?_
        rintro e w9 ⟨rfl, rfl⟩
        go_wp2_with (at_builtin; refine wpList_appY elmO gO_one rfl (.tmp 119) (.tmp 121) rfl (.slice A1 k c1) lk rfl (((HO.out.alloc _).alloc _).alloc _) [⟨10, xa % ((n : Int) + 1), 0, 0, 0⟩] y HYY rfl (Sl.fresh' _ #[_, _, _, _, _] 35 5 1 _ (by simp) rfl) rfl (by rw [HYN.out]; simp only [maxLen]; omega) (by rw [HYN.out]; omega) ?_; intro A4 c4 w4 hc4 hc5 HN1 _ _)
        go_roundw
        case rel => exact ⟨k + 1, A4, c4, by omega, by go_num, by rw [HYN.out], hid (by have hn1 := HN1.out; rw [HYN.out] at hn1; rw [HY.out, HOO.out, HYY.out]; exact hn1)⟩
        case measure => simp [intOf]; omega
      by_cases hk10 : K = 10
      · subst hk10
        have E : o = ⟨11, xa % 4, xb % ((n : Int) + 1), 0, 0⟩ := by
          rw [← HOO.out]; unfold opOf; simp only [HK.out]
          rfl
        subst E
        go_wp2_with fail
        refine (picked0 xa 4 _ (by omega) xa0 xa1 (by omega)).mono ?_
        rintro e w9 ⟨rfl, rfl⟩
        go_wp2_with fail
        refine (picked0 xb ((n : Int) + 1) _ (by omega) xb0 xb1 (by omega)).mono ?_
        rintro e w9 ⟨rfl, rfl⟩
        go_wp2_with (at_builtin; refine wpList_appY elmO gO_one rfl (.tmp 119) (.tmp 121) rfl (.slice A1 k c1) lk rfl (((HO.out.alloc _).alloc _).alloc _) [⟨11, xa % 4, xb % ((n : Int) + 1), 0, 0⟩] y HYY rfl (Sl.fresh' _ #[_, _, _, _, _] 35 5 1 _ (by simp) rfl) rfl (by rw [HYN.out]; simp only [maxLen]; omega) (by rw [HYN.out]; omega) ?_; intro A4 c4 w4 hc4 hc5 HN1 _ _)
        go_roundw
        case rel => exact ⟨k + 1, A4, c4, by omega, by go_num, by rw [HYN.out], hid (by have hn1 := HN1.out; rw [HYN.out] at hn1; rw [HY.out, HOO.out, HYY.out]; exact hn1)⟩
        case measure => simp [intOf]; omega
      by_cases hk11 : K = 11
      · subst hk11
        have E : o = ⟨12, xa % 4, xb % ((n : Int) + 1), 0, 0⟩ := by
          rw [← HOO.out]; unfold opOf; simp only [HK.out]
          rfl
        subst E
        go_wp2_with fail
        refine (picked0 xa 4 _ (by omega) xa0 xa1 (by omega)).mono ?_
        rintro e w9 ⟨rfl, rfl⟩
        go_wp2_with fail
        refine (picked0 xb ((n : Int) + 1) _ (by omega) xb0 xb1 (by omega)).mono ?_
        rintro e w9 ⟨rfl, rfl⟩
        go_wp2_with (at_builtin; refine wpList_appY elmO gO_one rfl (.tmp 119) (.tmp 121) rfl (.slice A1 k c1) lk rfl (((HO.out.alloc _).alloc _).alloc _) [⟨12, xa % 4, xb % ((n : Int) + 1), 0, 0⟩] y HYY rfl (Sl.fresh' _ #[_, _, _, _, _] 35 5 1 _ (by simp) rfl) rfl (by rw [HYN.out]; simp only [maxLen]; omega) (by rw [HYN.out]; omega) ?_; intro A4 c4 w4 hc4 hc5 HN1 _ _)
        go_roundw
        case rel => exact ⟨k + 1, A4, c4, by omega, by go_num, by rw [HYN.out], hid (by have hn1 := HN1.out; rw [HYN.out] at hn1; rw [HY.out, HOO.out, HYY.out]; exact hn1)⟩
        case measure => simp [intOf]; omega
      by_cases hk12 : K = 12
      · subst hk12
        have E : o = ⟨13, xa % 4, 5, xc % 6, 0⟩ := by
          rw [← HOO.out]; unfold opOf; simp only [HK.out]
          rfl
        subst E
        go_wp2_with fail
        refine (picked0 xa 4 _ (by omega) xa0 xa1 (by omega)).mono ?_
        rintro e w9 ⟨rfl, rfl⟩
        go_wp2_with fail
        refine (picked0 xc 6 _ (by omega) xc0 xc1 (by omega)).mono ?_
        rintro e w9 ⟨rfl, rfl⟩
        go_wp2_with (at_builtin; refine wpList_appY elmO gO_one rfl (.tmp 119) (.tmp 121) rfl (.slice A1 k c1) lk rfl (((HO.out.alloc _).alloc _).alloc _) [⟨13, xa % 4, 5, xc % 6, 0⟩] y HYY rfl (Sl.fresh' _ #[_, _, _, _, _] 35 5 1 _ (by simp) rfl) rfl (by rw [HYN.out]; simp only [maxLen]; omega) (by rw [HYN.out]; omega) ?_; intro A4 c4 w4 hc4 hc5 HN1 _ _)
        go_roundw
        case rel => exact ⟨k + 1, A4, c4, by omega, by go_num, by rw [HYN.out], hid (by have hn1 := HN1.out; rw [HYN.out] at hn1; rw [HY.out, HOO.out, HYY.out]; exact hn1)⟩
        case measure => simp [intOf]; omega
      by_cases hk13 : K = 13
      · subst hk13
        have E : o = ⟨14, xa % 4, 5, xc % 6, 0⟩ := by
          rw [← HOO.out]; unfold opOf; simp only [HK.out]
          rfl
        subst E
        go_wp2_with fail
        refine (picked0 xa 4 _ (by omega) xa0 xa1 (by omega)).mono ?_
        rintro e w9 ⟨rfl, rfl⟩
        go_wp2_with fail
        refine (picked0 xc 6 _ (by omega) xc0 xc1 (by omega)).mono ?_
        rintro e w9 ⟨rfl, rfl⟩
        go_wp2_with (at_builtin; refine wpList_appY elmO gO_one rfl (.tmp 119) (.tmp 121) rfl (.slice A1 k c1) lk rfl (((HO.out.alloc _).alloc _).alloc _) [⟨14, xa % 4, 5, xc % 6, 0⟩] y HYY rfl (Sl.fresh' _ #[_, _, _, _, _] 35 5 1 _ (by simp) rfl) rfl (by rw [HYN.out]; simp only [maxLen]; omega) (by rw [HYN.out]; omega) ?_; intro A4 c4 w4 hc4 hc5 HN1 _ _)
        go_roundw
        case rel => exact ⟨k + 1, A4, c4, by omega, by go_num, by rw [HYN.out], hid (by have hn1 := HN1.out; rw [HYN.out] at hn1; rw [HY.out, HOO.out, HYY.out]; exact hn1)⟩
        case measure => simp [intOf]; omega
      by_cases hk14 : K = 14
      · subst hk14
        have E : o = ⟨15, xa % 4, 5, xc % 6, xd % 4⟩ := by
          rw [← HOO.out]; unfold opOf; simp only [HK.out]
          rfl
        subst E
        go_wp2_with fail
        refine (picked0 xa 4 _ (by omega) xa0 xa1 (by omega)).mono ?_
        rintro e w9 ⟨rfl, rfl⟩
        go_wp2_with fail
        refine (picked0 xc 6 _ (by omega) xc0 xc1 (by omega)).mono ?_
        rintro e w9 ⟨rfl, rfl⟩
        go_wp2_with fail
        refine (picked0 xd 4 _ (by omega) xd0 xd1 (by omega)).mono ?_
        rintro e w9 ⟨rfl, rfl⟩
        go_wp2_with (at_builtin; refine wpList_appY elmO gO_one rfl (.tmp 119) (.tmp 121) rfl (.slice A1 k c1) lk rfl (((HO.out.alloc _).alloc _).alloc _) [⟨15, xa % 4, 5, xc % 6, xd % 4⟩] y HYY rfl (Sl.fresh' _ #[_, _, _, _, _] 35 5 1 _ (by simp) rfl) rfl (by rw [HYN.out]; simp only [maxLen]; omega) (by rw [HYN.out]; omega) ?_; intro A4 c4 w4 hc4 hc5 HN1 _ _)
        go_roundw
        case rel => exact ⟨k + 1, A4, c4, by omega, by go_num, by rw [HYN.out], hid (by have hn1 := HN1.out; rw [HYN.out] at hn1; rw [HY.out, HOO.out, HYY.out]; exact hn1)⟩
        case measure => simp [intOf]; omega
      by_cases hk15 : K = 15
      · subst hk15
        have E : o = ⟨16, xa % 4, 0, 0, 0⟩ := by
          rw [← HOO.out]; unfold opOf; simp only [HK.out]
          rfl
        subst E
        go_wp2_with fail
        refine (picked0 xa 4 _ (by omega) xa0 xa1 (by omega)).mono ?_
        rintro e w9 ⟨rfl, rfl⟩
        go_wp2_with (at_builtin; refine wpList_appY elmO gO_one rfl (.tmp 119) (.tmp 121) rfl (.slice A1 k c1) lk rfl (((HO.out.alloc _).alloc _).alloc _) [⟨16, xa % 4, 0, 0, 0⟩] y HYY rfl (Sl.fresh' _ #[_, _, _, _, _] 35 5 1 _ (by simp) rfl) rfl (by rw [HYN.out]; simp only [maxLen]; omega) (by rw [HYN.out]; omega) ?_; intro A4 c4 w4 hc4 hc5 HN1 _ _)
        go_roundw
        case rel => exact ⟨k + 1, A4, c4, by omega, by go_num, by rw [HYN.out], hid (by have hn1 := HN1.out; rw [HYN.out] at hn1; rw [HY.out, HOO.out, HYY.out]; exact hn1)⟩
        case measure => simp [intOf]; omega
      by_cases hk16 : K = 16
      · subst hk16
        have E : o = ⟨17, 0, 0, 0, 0⟩ := by
          rw [← HOO.out]; unfold opOf; simp only [HK.out]
          rfl
        subst E
        go_wp2_with (at_builtin; refine wpList_appY elmO gO_one rfl (.tmp 119) (.tmp 121) rfl (.slice A1 k c1) lk rfl (((HO.out.alloc _).alloc _).alloc _) [⟨17, 0, 0, 0, 0⟩] y HYY rfl (Sl.fresh' _ #[_, _, _, _, _] 35 5 1 _ (by simp) rfl) rfl (by rw [HYN.out]; simp only [maxLen]; omega) (by rw [HYN.out]; omega) ?_; intro A4 c4 w4 hc4 hc5 HN1 _ _)
        go_roundw
        case rel => exact ⟨k + 1, A4, c4, by omega, by go_num, by rw [HYN.out], hid (by have hn1 := HN1.out; rw [HYN.out] at hn1; rw [HY.out, HOO.out, HYY.out]; exact hn1)⟩
        case measure => simp [intOf]; omega
      have j0 : ((1 + K == 1) = false) := by simp; omega
      have j1 : ((1 + K == 2) = false) := by simp; omega
      have j9 : ((1 + K == 10) = false) := by simp; omega
      have j10 : ((1 + K == 11) = false) := by simp; omega
      have j11 : ((1 + K == 12) = false) := by simp; omega
      have j12 : ((1 + K == 13) = false) := by simp; omega
      have j13 : ((1 + K == 14) = false) := by simp; omega
      have j14 : ((1 + K == 15) = false) := by simp; omega
      have j15 : ((1 + K == 16) = false) := by simp; omega
      have j16 : ((1 + K == 17) = false) := by simp; omega
      have E : o = ⟨1 + K, xa % 4, xb % 4, xc % 4, 0⟩ := by
        rw [← HOO.out]; unfold opOf; simp only [HK.out]
        rw [if_neg (by omega), if_neg (by omega), if_neg (by omega), if_neg (by omega), if_neg (by omega), if_neg (by omega), if_neg (by omega), if_neg (by omega), if_neg (by omega), if_neg (by omega)]
      subst E
      go_wp2_with fail
      refine (picked0 xa 4 _ (by omega) xa0 xa1 (by omega)).mono ?_
      rintro e w9 ⟨rfl, rfl⟩
      go_wp2_with fail
      refine (picked0 xb 4 _ (by omega) xb0 xb1 (by omega)).mono ?_
      rintro e w9 ⟨rfl, rfl⟩
      go_wp2_with fail
      refine (picked0 xc 4 _ (by omega) xc0 xc1 (by omega)).mono ?_
      rintro e w9 ⟨rfl, rfl⟩
      go_wp2_with (at_builtin; refine wpList_appY elmO gO_one rfl (.tmp 119) (.tmp 121) rfl (.slice A1 k c1) lk rfl (((HO.out.alloc _).alloc _).alloc _) [⟨1 + K, xa % 4, xb % 4, xc % 4, 0⟩] y HYY rfl (Sl.fresh' _ #[_, _, _, _, _] 35 5 1 _ (by simp) rfl) rfl (by rw [HYN.out]; simp only [maxLen]; omega) (by rw [HYN.out]; omega) ?_; intro A4 c4 w4 hc4 hc5 HN1 _ _)
      go_roundw
      case rel => exact ⟨k + 1, A4, c4, by omega, by go_num, by rw [HYN.out], hid (by have hn1 := HN1.out; rw [HYN.out] at hn1; rw [HY.out, HOO.out, HYY.out]; exact hn1)⟩
      case measure => simp [intOf]; omega
    · obtain rfl : k = n := by omega
      have i1 : ¬ (k : Int) < (k : Int) := by omega
      go_wp2
      go_ret
      exact ⟨_, rfl, by rw [HE.out]; exact HO.out⟩
theorem code_of (A : Option Addr) (n c N : Nat) (ls : List Op5) (w : World) (hn : n ≤ c) (hc : c ≤ maxLen) (hN : N ≤ 200) (h : Lines w A n ls) :
    Calls Tryd.prog 11 #[.slice A n c, .int .i64 (N : Int)] w fun e w' => ∃ v, e = .returned v ∧ Ow w w' 35 5 gO v (codeOf ls N) := by
  rcases Nat.lt_or_ge N n with hQ | hQ
  · exact code_of1 A n c N ls w hn hc hN hQ h
  · exact code_of2 A n c N ls w hn hc hN hQ h
end Go.Proofs.YtljdnbdmfhcmpaaDoor
