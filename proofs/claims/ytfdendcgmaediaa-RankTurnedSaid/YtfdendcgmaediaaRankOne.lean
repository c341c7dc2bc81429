/-
  RankOne: its walk.
-/
import Derived.Test.YtfdendcgmaediaaRankK
namespace Go.Proofs.Ytfdendcgmaediaa
open Go.RowKit
set_option linter.unusedVariables false

theorem any_take {f : Int → Bool} {l : List Int} {k : Nat} {v : Int} (h : l[k]? = some v) : (l.take (k + 1)).any f = ((l.take k).any f || f v) := by
  rw [List.take_add_one, h]; simp
theorem cnt_take {f : Int → Bool} {l : List Int} {k : Nat} {v : Int} (h : l[k]? = some v) : (l.take (k + 1)).countP f = (l.take k).countP f + (if f v = true then 1 else 0) := by
  rw [List.take_add_one, h, List.countP_append]
  cases hf : f v <;> simp [hf]
theorem wrap_rk {x : Int} (h0 : -1000000000 ≤ x) (h1 : x ≤ 1000000000) : wrap64 x = x := by unfold wrap64; omega
set_option maxHeartbeats 4000000 in
theorem law_rankOne (A : Option Addr) (n c : Nat) (l : List Int) (xp xo : Int) (w : World) (hn : n ≤ c) (hc : c ≤ maxLen) (_ : c * 8 ≤ 140737488351232) (hS : Sl w 1 A n (ints l)) (hbd : ∀ x ∈ l, -9223372036854775808 ≤ x ∧ x ≤ 9223372036854775807)
    (ha : -9223372036854775808 ≤ xp) (ha1 : xp ≤ 9223372036854775807) (hb : -9223372036854775808 ≤ xo) (hb1 : xo ≤ 9223372036854775807) :
    Calls Try.prog 10 #[.slice A n c, .int .i64 xp, .int .i64 xo] w fun e w' => e = .returned (.bool true) ∧ Below w.heap.size w w' := by
  have HS := hid hS; have HBD := hid hbd
  clear hS hbd
  have k1 := pk_lt xo 100 (by decide)
  obtain ⟨o, hO⟩ : ∃ o : Nat, wrap64 (1 + (pk xo 100 : Int)) = (o : Int) ∧ o = 1 + pk xo 100 := ⟨1 + pk xo 100, by rw [wrap_rk (by omega) (by omega)]; omega, rfl⟩
  have ho1 : 1 ≤ o := by omega
  have ho2 : o ≤ 100 := by omega
  have HO := hid hO.1
  have HO2 := hid (wrap_rk (x := (o : Int) + 1) (by omega) (by omega))
  clear hO k1
  have k2 := pk_lt xp ((o : Int) + 1) (by omega)
  obtain ⟨p, hP⟩ : ∃ p, pk xp ((o : Int) + 1) = p := ⟨_, rfl⟩
  have hpo : p ≤ o := by omega
  have HP := hid hP
  clear hP k2
  go_enter Try.func10, Try.ntmps10
  go_wp2_with fail
  refine (values_of A n c l 80 w hn hc HS.out HBD.out (by decide)).mono ?_
  rintro e w1 ⟨v1, rfl, o1⟩
  obtain ⟨A1, c1, rfl, hc1, hc12⟩ := o1.form
  obtain ⟨V, hV⟩ : ∃ V, (valsOf l 80).length = V := ⟨_, rfl⟩
  have hV1 : 1 ≤ V := by rw [← hV, valsOf_len]; omega
  have hV2 : V ≤ 81 := by rw [← hV, valsOf_len]; omega
  obtain ⟨vs, hvs⟩ : ∃ vs, valsOf l 80 = vs := ⟨_, rfl⟩
  rw [hvs] at hV o1 hc1 ⊢
  rw [hV] at hc1 ⊢
  have HV := hid hV
  have HSL := hid (show Sl w1 1 A1 V (ints vs) by have h := o1.sl; rw [hV] at h; exact h)
  have B1 := hid o1.below
  clear o1 hvs hV
  unfold maxLen at hc12
  go_wp2_with fail
  refine (picked xo 100 w1 (by decide) hb hb1 (by decide)).mono ?_
  rintro e w' ⟨rfl, rfl⟩
  go_wp2_with fail
  rw [HO.out, HO2.out]
  refine (picked xp ((o : Int) + 1) w1 (by omega) ha ha1 (by omega)).mono ?_
  rintro e w' ⟨rfl, rfl⟩
  rw [HP.out]
  go_wp2_with fail
  refine (rank_k A1 V c1 o p vs w1 HV.out hV1 (by omega) ho1 (by omega) hpo HSL.out).mono ?_
  rintro e w2 ⟨rfl, b2⟩
  have HPL := hid (rank_one (l := vs) (o := o) (p := p) (by rw [HV.out]; exact hV1) hpo)
  obtain ⟨x, hx⟩ : ∃ x, rk vs o p = x := ⟨_, rfl⟩
  rw [hx] at HPL ⊢
  have HSL2 := hid (HSL.out.below b2)
  have B2 := hid (bgo B1.out b2)
  clear hx b2 HSL B1
  go_wp2_with fail
  go_loopw [11, 12, 13, 14] (fun h b u i wr => ∃ (k : Nat) (hh : Bool) (B U : Nat), k ≤ V ∧ B ≤ k ∧ U ≤ k ∧ i = .int .i64 k ∧ h = .bool hh ∧ b = .int .i64 B ∧ u = .int .i64 U ∧ Hid (hh = (vs.take k).any (· == x)) ∧ Hid (B = (vs.take k).countP fun v => decide (v < x)) ∧ Hid (U = (vs.take k).countP fun v => decide (v ≤ x)) ∧ Hid (Below w2.heap.size w2 wr)) (fun _ _ _ i _ => V - (intOf i).toNat)
  case atStart => exact ⟨0, false, 0, 0, Nat.zero_le _, Nat.le_refl _, Nat.le_refl _, rfl, rfl, rfl, rfl, hid rfl, hid rfl, hid rfl, hid (bnil _)⟩
  case round =>
    obtain ⟨k, hh, B, U, hk, hB, hU, rfl, rfl, rfl, rfl, HH, HB, HU, BR⟩ := hrel
    by_cases hlt : k < V
    · have j1 : (k : Int) < (V : Int) := by omega
      obtain ⟨ad, v, rfl, hv, cv⟩ := (HSL2.out.below BR.out).ati hlt
      have ha' := any_take (f := (· == x)) hv
      have hb' := cnt_take (f := fun v => decide (v < x)) hv
      have hu' := cnt_take (f := fun v => decide (v ≤ x)) hv
      rw [← HH.out] at ha'
      rw [← HB.out] at hb'
      rw [← HU.out] at hu'
      clear hv HH HB HU
      rcases (show v < x ∨ v = x ∨ x < v by omega) with h3 | h3 | h3
      · have HH1 := hid (show hh = (vs.take (k + 1)).any (· == x) by rw [ha']; simp; omega)
        have HB1_ := hid (show B + 1 = (vs.take (k + 1)).countP fun v => decide (v < x) by rw [hb']; simp [h3])
        have HU1 := hid (show U + 1 = (vs.take (k + 1)).countP fun v => decide (v ≤ x) by rw [hu']; simp; omega)
        clear ha' hb' hu'
        have e1 : ¬ (v = x) := by omega
        have e2 : v ≤ x := by omega
        cases hh
        all_goals
          go_wp2_with fail
          go_roundw
          case rel => first | exact ⟨k + 1, _, B + 1, U + 1, by omega, by omega, by omega, by go_num, by go_num, by go_num, by go_num, HH1, HB1_, HU1, BR⟩ | exact ⟨k + 1, by omega, _, B + 1, by omega, U + 1, by omega, by go_num, by go_num, by go_num, by go_num, HH1, HB1_, HU1, BR⟩ | (trace_state; fail)
          case measure => simp [intOf]; omega
      · subst h3
        have HH1 := hid (show true = (vs.take (k + 1)).any (· == v) by rw [ha']; simp)
        have HB1_ := hid (show B = (vs.take (k + 1)).countP fun z => decide (z < v) by rw [hb']; simp)
        have HU1 := hid (show U + 1 = (vs.take (k + 1)).countP fun z => decide (z ≤ v) by rw [hu']; simp)
        clear ha' hb' hu'
        have e1 : ¬ (v < v) := by omega
        have e2 : v ≤ v := by omega
        cases hh
        all_goals
          go_wp2_with fail
          go_roundw
          case rel => first | exact ⟨k + 1, true, B, U + 1, by omega, by omega, by omega, by go_num, by go_num, by go_num, by go_num, HH1, HB1_, HU1, BR⟩ | exact ⟨k + 1, by omega, true, B, by omega, U + 1, by omega, by go_num, by go_num, by go_num, by go_num, HH1, HB1_, HU1, BR⟩ | (trace_state; fail)
          case measure => simp [intOf]; omega
      · have HH1 := hid (show hh = (vs.take (k + 1)).any (· == x) by rw [ha']; simp; omega)
        have HB1_ := hid (show B = (vs.take (k + 1)).countP fun v => decide (v < x) by rw [hb']; simp; omega)
        have HU1 := hid (show U = (vs.take (k + 1)).countP fun v => decide (v ≤ x) by rw [hu']; simp; omega)
        clear ha' hb' hu'
        have e1 : ¬ (v = x) := by omega
        have e2 : ¬ (v ≤ x) := by omega
        have e3 : ¬ (v < x) := by omega
        cases hh
        all_goals
          go_wp2_with fail
          go_roundw
          case rel => first | exact ⟨k + 1, _, B, U, by omega, by omega, by omega, by go_num, by go_num, by go_num, by go_num, HH1, HB1_, HU1, BR⟩ | exact ⟨k + 1, by omega, _, B, by omega, U, by omega, by go_num, by go_num, by go_num, by go_num, HH1, HB1_, HU1, BR⟩ | (trace_state; fail)
          case measure => simp [intOf]; omega
    · obtain rfl : k = V := by omega
      have j1 : ¬ (k : Int) < (k : Int) := by omega
      have htk : vs.take k = vs := List.take_of_length_le (by rw [HV.out]; exact Nat.le_refl _)
      rw [htk] at HH HB HU
      obtain ⟨q1, q2, q3⟩ := HPL.out
      have hht : hh = true := by rw [HH.out, List.any_eq_true]; exact ⟨x, q1, by simp⟩
      rw [HV.out, ← HU.out] at q2
      rw [HV.out, ← HB.out] at q3
      subst hht
      obtain ⟨PV, hPV⟩ : ∃ PV, p * k = PV := ⟨_, rfl⟩
      obtain ⟨UO, hUO⟩ : ∃ UO, U * o = UO := ⟨_, rfl⟩
      have b1 : PV ≤ 100 * 81 := by rw [← hPV]; exact Nat.mul_le_mul (by omega) hV2
      have b2 : UO ≤ 81 * 100 := by rw [← hUO]; exact Nat.mul_le_mul (by omega) ho2
      have eP : (p : Int) * (k : Int) = (PV : Int) := by rw [← hPV]; simp
      have eU : (U : Int) * (o : Int) = (UO : Int) := by rw [← hUO]; simp
      rw [hPV, hUO] at q2
      rw [hPV] at q3
      have i5 : (PV : Int) ≤ (UO : Int) := by omega
      clear HH HB HU htk q1 q2 hPV hUO HPL
      rcases q3 with q3 | q3
      · subst q3
        go_wp2_with fail
        go_ret
        exact ⟨rfl, bgo B2.out BR.out⟩
      · obtain ⟨BO, hBO⟩ : ∃ BO, B * o = BO := ⟨_, rfl⟩
        have b3 : BO ≤ 81 * 100 := by rw [← hBO]; exact Nat.mul_le_mul (by omega) ho2
        have eB : (B : Int) * (o : Int) = (BO : Int) := by rw [← hBO]; simp
        rw [hBO] at q3
        have i6 : (BO : Int) < (PV : Int) := by omega
        clear hBO q3
        by_cases hB0 : B = 0
        · subst hB0
          go_wp2_with fail
          go_ret
          exact ⟨rfl, bgo B2.out BR.out⟩
        · have i7 : ¬ ((B : Int) = 0) := by omega
          go_wp2_with fail
          go_ret
          exact ⟨rfl, bgo B2.out BR.out⟩
end Go.Proofs.Ytfdendcgmaediaa
