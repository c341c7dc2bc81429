/-
  GuessNear: its walk.
-/
import Derived.Test.YtifpnfhmemdljaaGuess
namespace Go.Proofs.Ytifpnfhmemdljaa
open Go.RowKit
set_option linter.unusedVariables false

set_option maxHeartbeats 4000000 in
theorem law_guessNear (A : Option Addr) (n c : Nat) (l : List Int) (B : Option Addr) (m q : Nat) (ms : List Int) (xp xo : Int) (w : World)
    (hn : n ≤ c) (hc : c ≤ maxLen) (_ : c * 8 ≤ 140737488351232) (hA : Sl w 1 A n (ints l)) (hls : ∀ x ∈ l, -9223372036854775808 ≤ x ∧ x ≤ 9223372036854775807)
    (hm : m ≤ q) (hq : q ≤ maxLen) (_ : q * 8 ≤ 140737488351232) (hB : Sl w 1 B m (ints ms)) (hms : ∀ x ∈ ms, -9223372036854775808 ≤ x ∧ x ≤ 9223372036854775807)
    (ha : -9223372036854775808 ≤ xp) (ha1 : xp ≤ 9223372036854775807) (hb : -9223372036854775808 ≤ xo) (hb1 : xo ≤ 9223372036854775807) :
    Calls Try.prog 3 #[.slice A n c, .slice B m q, .int .i64 xp, .int .i64 xo] w fun e w' => e = .returned (.bool true) ∧ Below w.heap.size w w' := by
  have HA := hid hA; have HLS := hid hls; have HB := hid hB; have HMS := hid hms
  clear hA hls hB hms
  have k1 := pk_lt xo 100 (by decide)
  obtain ⟨o, hO⟩ : ∃ o : Nat, wrap64 (1 + (pk xo 100 : Int)) = (o : Int) ∧ o = 1 + pk xo 100 := ⟨1 + pk xo 100, by rw [wrap_rk (by omega) (by omega)]; omega, rfl⟩
  have ho1 : 1 ≤ o := by omega
  have ho2 : o ≤ 100 := by omega
  have HO := hid hO.1
  have HO2 := hid (wrap_rk (x := (o : Int) + 1) (by omega) (by omega))
  clear hO k1
  have k2 := pk_lt xp ((o : Int) + 1) (by omega)
  obtain ⟨p, hP⟩ : ∃ p, pk xp ((o : Int) + 1) = p := ⟨_, rfl⟩
  have hpo : p ≤ o := by omega
  have HP := hid hP
  clear hP k2
  go_enter Try.func3, Try.ntmps3
  go_wp2_with fail
  refine (values_of A n c l 80 w hn hc HA.out HLS.out (by decide)).mono ?_
  rintro e w1 ⟨v1, rfl, o1⟩
  obtain ⟨A1, c1, rfl, hc1, hc12⟩ := o1.form
  obtain ⟨V, hV⟩ : ∃ V, (valsOf l 80).length = V := ⟨_, rfl⟩
  have hV1 : 1 ≤ V := by rw [← hV, valsOf_len]; omega
  have hV2 : V ≤ 81 := by rw [← hV, valsOf_len]; omega
  obtain ⟨vs, hvs⟩ : ∃ vs, valsOf l 80 = vs := ⟨_, rfl⟩
  rw [hvs] at hV o1 hc1 ⊢
  rw [hV] at hc1 ⊢
  have HV := hid hV
  have HSL := hid (show Sl w1 1 A1 V (ints vs) by have h := o1.sl; rw [hV] at h; exact h)
  have B1 := hid o1.below
  clear o1 hvs hV
  go_wp2_with fail
  refine (bounds_of B m q ms w1 hm hq (HB.out.below B1.out) HMS.out).mono ?_
  rintro e w2 ⟨v2, rfl, ho2'⟩
  have HBI := hid (bdsOf_in ms)
  have hbl := (bdsOf_in ms).len
  obtain ⟨bs, hbs⟩ : ∃ bs, bdsOf ms = bs := ⟨_, rfl⟩
  rw [hbs] at ho2' HBI hbl
  obtain ⟨A2, c2, rfl, hc2, hc22⟩ := ho2'.form
  obtain ⟨b, hb'⟩ : ∃ b, bs.length = b := ⟨_, rfl⟩
  rw [hb'] at ho2' hc2 hbl ⊢
  have HBS := hid ho2'.sl; have HBL := hid hb'; have B2 := hid (bgo B1.out ho2'.below)
  have HSL2 := hid (HSL.out.below ho2'.below)
  clear ho2' hbs hb' HSL B1
  go_wp2_with fail
  refine (picked xo 100 w2 (by decide) hb hb1 (by decide)).mono ?_
  rintro e w' ⟨rfl, rfl⟩
  go_wp2_with fail
  rw [HO.out, HO2.out]
  refine (picked xp ((o : Int) + 1) w2 (by omega) ha ha1 (by omega)).mono ?_
  rintro e w' ⟨rfl, rfl⟩
  rw [HP.out]
  go_wp2_with fail
  refine (quant_Counts A1 A2 V c1 b c2 vs bs w2 (by omega) HSL2.out HBS.out HBI.out).mono ?_
  rintro e w3 ⟨v3, rfl, o3⟩
  obtain ⟨A3, c3, rfl, hc3, hc32⟩ := o3.form
  rw [cts_len, HBL.out] at o3 hc3 ⊢
  have HC3 := hid o3.sl; have B3 := hid o3.below
  have HSL3 := hid (HSL2.out.below B3.out); have HBS3 := hid (HBS.out.below B3.out)
  clear o3
  go_wp2_with fail
  refine (quant_Guess A2 A3 b c2 (b + 1) c3 bs vs o p w3 HBI.out rfl HBS3.out HC3.out (by rw [HV.out]; exact hV1) (by rw [HV.out]; omega) ho1 (by omega) hpo).mono ?_
  rintro e w4 hg
  obtain ⟨g, er, rfl, b4, hg⟩ := hg
  have HG := hid hg
  have B4 := hid b4
  have HSL4 := hid (HSL3.out.below b4)
  clear hg b4
  go_wp2_with fail
  refine (rank_k A1 V c1 o p vs w4 HV.out hV1 (by omega) ho1 (by omega) hpo HSL4.out).mono ?_
  rintro e w5 ⟨rfl, b5⟩
  have HBS5 := hid (HBS3.out.below (bgo B4.out b5))
  have BE := hid (bgo B2.out (bgo B3.out (bgo B4.out b5)))
  have HUP := hid (fun (i : Nat) (y : Int) => guess_up (bs := bs) (vs := vs) (o := o) (p := p) (i := i) (b := y) HBI.out (by rw [HV.out]; exact hV1) hpo)
  have HLO := hid (fun (i : Nat) (y : Int) => guess_low (bs := bs) (vs := vs) (o := o) (p := p) (i := i) (b := y) HBI.out (by rw [HV.out]; exact hV1) hpo)
  obtain ⟨x, hx⟩ : ∃ x, rk vs o p = x := ⟨_, rfl⟩
  rw [hx] at HUP HLO ⊢
  clear hx b5
  rcases HG.out with ⟨rfl, i, hi, hj, hge⟩ | ⟨rfl, rfl, hj⟩
  · have hib := (List.getElem?_eq_some_iff.1 hi).1
    rw [HBL.out] at hib
    have HI := hid hi; have HJ := hid hj; have HGE := hid hge
    clear hi hj hge HG
    go_wp2_with fail
    go_loopw [18] (fun s wr => ∃ k : Nat, k ≤ i ∧ s = .int .i64 k ∧ Hid (Below w5.heap.size w5 wr)) (fun s _ => b - (intOf s).toNat)
    case atStart => exact ⟨0, Nat.zero_le _, rfl, hid (bnil _)⟩
    case round =>
      obtain ⟨k, hk, rfl, BR⟩ := hrel
      have j1 : (k : Int) < (b : Int) := by omega
      obtain ⟨ad, y, rfl, hy, cy⟩ := (HBS5.out.below BR.out).ati (k := k) (by omega)
      by_cases hki : k = i
      · subst hki
        obtain rfl : y = g := by have := HI.out; rw [hy] at this; injection this
        have eyy : (y == y) = true := by simp
        clear hy
        by_cases hp0 : p = 0
        · subst hp0
          have hk0 : k = 0 := by
            rcases Nat.eq_zero_or_pos k with h | h
            · exact h
            · have := HJ.out 0 h; rw [Nat.zero_mul] at this; omega
          subst hk0
          have g1 : (((0 : Nat) : Int) == 0) = true := rfl
          have cy0 : wr.cell? ad = some (.int .i64 y) := by simpa [Addr.add] using cy
          go_upto_region 18 with fail
          go_wp2_with fail
          go_ret
          exact ⟨rfl, bgo BE.out BR.out⟩
        · have hxy := HUP.out k y (by omega) HI.out HGE.out
          have ip : ¬ ((p : Int) = 0) := by omega
          have ip2 : (0 : Int) < (p : Int) := by omega
          by_cases hk0 : k = 0
          · subst hk0
            have cy0 : wr.cell? ad = some (.int .i64 y) := by simpa [Addr.add] using cy
            have HG1 := hid (show ((p : Int) == 0) = false from beqF ip)
            have HG2 := hid (show decide ((0 : Int) < (p : Int)) = true from decide_eq_true ip2)
            have HG3 := hid (show decide (x ≤ y) = true from decide_eq_true hxy)
            go_upto_region 18 with fail
            have g1 := HG1.out; have g2 := HG2.out; have g3 := HG3.out
            go_wp2_with fail
            go_ret
            exact ⟨rfl, bgo BE.out BR.out⟩
          · obtain ⟨ad2, y2, e2, hy2, cy2⟩ := (HBS5.out.below BR.out).ati (k := k - 1) (by omega)
            injection e2 with e2
            subst e2
            have hlo := HLO.out (k - 1) y2 hy2 (HJ.out (k - 1) (by omega))
            have ik : ¬ ((k : Int) = 0) := by omega
            have HG5 := hid (show ((k : Int) == 0) = false from beqF ik)
            have q1 : IntKind.i64.wrap ((k : Int) - 1) = (k : Int) - 1 := IntWalk.i64_in _ (by omega)
            have q2 : (0 : Int) ≤ (k : Int) - 1 := by omega
            have q3 : (k : Int) - 1 < (b : Int) := by omega
            have q4 : ((k : Int) - 1).toNat = k - 1 := by omega
            clear hy2
            have HG1 := hid (show ((p : Int) == 0) = false from beqF ip)
            have HG2 := hid (show decide ((0 : Int) < (p : Int)) = true from decide_eq_true ip2)
            have HG3 := hid (show decide (x ≤ y) = true from decide_eq_true hxy)
            have HG4 := hid (show decide (y2 < x) = true from decide_eq_true hlo)
            go_upto_region 18 with fail
            have g1 := HG1.out; have g2 := HG2.out; have g3 := HG3.out; have g4 := HG4.out; have g5 := HG5.out
            go_wp2_with fail
            go_ret
            exact ⟨rfl, bgo BE.out BR.out⟩
      · have hyg : ¬ (y = g) := fun e => hki (up_inj HBI.out (by rw [hy, e]) HI.out)
        clear hy
        go_wp2_with fail
        go_roundw
        case rel => exact ⟨k + 1, by omega, by go_num, BR⟩
        case measure => simp [intOf]; omega
  · have HJ := hid hj
    clear HG hj
    by_cases hb0 : b = 0
    · subst hb0
      go_wp2_with fail
      go_ret
      exact ⟨rfl, BE.out⟩
    · obtain ⟨b2, rfl⟩ : ∃ b2, b = b2 + 1 := ⟨b - 1, by omega⟩
      obtain ⟨ad, y, rfl, hy, cy⟩ := HBS5.out.ati (k := b2) (by omega)
      have hlo := HLO.out b2 y hy (HJ.out b2 (by rw [HBL.out]; omega))
      have ib : ¬ (((b2 + 1 : Nat) : Int) = 0) := by omega
      clear hy
      go_wp2_with fail
      go_ret
      exact ⟨rfl, BE.out⟩
end Go.Proofs.Ytifpnfhmemdljaa
