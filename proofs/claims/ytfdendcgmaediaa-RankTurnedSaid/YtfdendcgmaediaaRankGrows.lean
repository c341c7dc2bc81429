/-
  RankGrows: its walk.
-/
import Derived.Test.YtfdendcgmaediaaRankOne
namespace Go.Proofs.Ytfdendcgmaediaa
open Go.RowKit
set_option linter.unusedVariables false

theorem rkI_mono {n o p q : Nat} (h : p ≤ q) : rkI n o p ≤ rkI n o q := by
  unfold rkI
  refine List.countP_mono_left fun k _ hk => ?_
  simp only [decide_eq_true_eq] at hk ⊢
  exact Nat.lt_of_lt_of_le hk (Nat.mul_le_mul_right n h)
theorem rk_mono {l : List Int} {o p q : Nat} (h1 : 1 ≤ l.length) (h : p ≤ q) (hq : q ≤ o) : rk l o p ≤ rk l o q :=
  pair_at (srt_pair l) (rkI_mono h) (rk_at h1 (Nat.le_trans h hq)) (rk_at h1 hq)
theorem rkI_zero (n o : Nat) : rkI n o 0 = 0 := by
  unfold rkI
  rw [Nat.zero_mul]
  simp
theorem rkI_full {n o : Nat} (hn : 1 ≤ n) (ho : 1 ≤ o) : rkI n o o = n - 1 := by
  have h1 := rkI_lt (n := n) (o := o) (p := o) hn (Nat.le_refl o)
  obtain ⟨_, _, h3⟩ := rankI_of n o o (Nat.le_refl o)
  have h4 := h3 (rkI n o o) (Nat.le_refl _) h1
  have h5 : o * n ≤ o * (rkI n o o + 1) := by rw [Nat.mul_comm o (rkI n o o + 1)]; exact h4
  have := Nat.le_of_mul_le_mul_left h5 ho
  omega
/-- the least value is the quantile for nothing, the greatest for all -/
theorem rk_least {l : List Int} {o : Nat} (h1 : 1 ≤ l.length) {x : Int} (hx : x ∈ l) (hm : ∀ y ∈ l, x ≤ y) : rk l o 0 = x := by
  have hat := rk_at (o := o) (p := 0) h1 (Nat.zero_le _)
  have h2 : rk l o 0 ∈ l := (srt_perm l).mem_iff.1 (List.mem_of_getElem? hat)
  rw [rkI_zero] at hat
  obtain ⟨k, hk⟩ := List.getElem?_of_mem ((srt_perm l).mem_iff.2 hx)
  have h3 := pair_at (srt_pair l) (Nat.zero_le k) hat hk
  have h4 := hm _ h2
  omega
theorem rk_most {l : List Int} {o : Nat} (h1 : 1 ≤ l.length) (ho : 1 ≤ o) {x : Int} (hx : x ∈ l) (hm : ∀ y ∈ l, y ≤ x) : rk l o o = x := by
  have hat := rk_at (o := o) (p := o) h1 (Nat.le_refl _)
  have h2 : rk l o o ∈ l := (srt_perm l).mem_iff.1 (List.mem_of_getElem? hat)
  rw [rkI_full h1 ho] at hat
  obtain ⟨k, hk⟩ := List.getElem?_of_mem ((srt_perm l).mem_iff.2 hx)
  have hl := (List.getElem?_eq_some_iff.1 hk).1
  rw [srt_len] at hl
  have h3 := pair_at (srt_pair l) (show k ≤ l.length - 1 by omega) hk hat
  have h4 := hm _ h2
  omega
set_option maxHeartbeats 4000000 in
theorem law_rankGrows (A : Option Addr) (n c : Nat) (l : List Int) (xp xq xo : Int) (w : World) (hn : n ≤ c) (hc : c ≤ maxLen) (_ : c * 8 ≤ 140737488351232) (hS : Sl w 1 A n (ints l)) (hbd : ∀ x ∈ l, -9223372036854775808 ≤ x ∧ x ≤ 9223372036854775807)
    (ha : -9223372036854775808 ≤ xp) (ha1 : xp ≤ 9223372036854775807) (hq : -9223372036854775808 ≤ xq) (hq1 : xq ≤ 9223372036854775807) (hb : -9223372036854775808 ≤ xo) (hb1 : xo ≤ 9223372036854775807) :
    Calls Try.prog 11 #[.slice A n c, .int .i64 xp, .int .i64 xq, .int .i64 xo] w fun e w' => e = .returned (.bool true) ∧ Below w.heap.size w w' := by
  have HS := hid hS; have HBD := hid hbd
  clear hS hbd
  have k1 := pk_lt xo 100 (by decide)
  obtain ⟨o, hO⟩ : ∃ o : Nat, wrap64 (1 + (pk xo 100 : Int)) = (o : Int) ∧ o = 1 + pk xo 100 := ⟨1 + pk xo 100, by rw [wrap_rk (by omega) (by omega)]; omega, rfl⟩
  have ho1 : 1 ≤ o := by omega
  have ho2 : o ≤ 100 := by omega
  have HO := hid hO.1
  have HO2 := hid (wrap_rk (x := (o : Int) + 1) (by omega) (by omega))
  clear hO k1
  have k2 := pk_lt xp ((o : Int) + 1) (by omega)
  obtain ⟨p, hP⟩ : ∃ p, pk xp ((o : Int) + 1) = p := ⟨_, rfl⟩
  have hpo : p ≤ o := by omega
  have HP := hid hP
  clear hP k2
  go_enter Try.func11, Try.ntmps11
  go_wp2_with fail
  refine (values_of A n c l 80 w hn hc HS.out HBD.out (by decide)).mono ?_
  rintro e w1 ⟨v1, rfl, o1⟩
  obtain ⟨A1, c1, rfl, hc1, hc12⟩ := o1.form
  obtain ⟨V, hV⟩ : ∃ V, (valsOf l 80).length = V := ⟨_, rfl⟩
  have hV1 : 1 ≤ V := by rw [← hV, valsOf_len]; omega
  have hV2 : V ≤ 81 := by rw [← hV, valsOf_len]; omega
  have hbv := valsOf_bd l 80
  obtain ⟨vs, hvs⟩ : ∃ vs, valsOf l 80 = vs := ⟨_, rfl⟩
  rw [hvs] at hV o1 hc1 hbv ⊢
  rw [hV] at hc1 ⊢
  have HV := hid hV; have HBV := hid hbv
  have HSL := hid (show Sl w1 1 A1 V (ints vs) by have h := o1.sl; rw [hV] at h; exact h)
  have B1 := hid o1.below
  obtain ⟨b, c7, e7, _, hcell⟩ := own_at o1.own (by rw [hV]; omega)
  injection e7 with e7 e8 e9
  subst e7
  subst e9
  clear e8
  have HC := hid (show ∀ (k : Nat) (v : Int), vs[k]? = some v → w1.cell? ⟨b, k, none⟩ = some (.int .i64 v) from fun k v hk => by
    have h := flatMap_at gI 1 (fun _ => rfl) vs k 0 v hk (by decide)
    rw [Nat.mul_one, Nat.add_zero] at h
    exact hcell _ _ (by rw [h]; rfl))
  clear hcell
  clear o1 hvs hV hbv
  unfold maxLen at hc12
  go_wp2_with fail
  refine (picked xo 100 w1 (by decide) hb hb1 (by decide)).mono ?_
  rintro e w' ⟨rfl, rfl⟩
  go_wp2_with fail
  rw [HO.out, HO2.out]
  refine (picked xp ((o : Int) + 1) w1 (by omega) ha ha1 (by omega)).mono ?_
  rintro e w' ⟨rfl, rfl⟩
  rw [HP.out]
  go_wp2_with fail
  obtain ⟨d, hd⟩ : ∃ d, pk xq ((o : Int) - (p : Int) + 1) = d := ⟨_, rfl⟩
  have hdo : p + d ≤ o := by have := pk_lt xq ((o : Int) - (p : Int) + 1) (by omega); omega
  have HD := hid hd
  clear hd
  refine (picked xq ((o : Int) - (p : Int) + 1) w1 (by omega) hq hq1 (by omega)).mono ?_
  rintro e w' ⟨rfl, rfl⟩
  rw [HD.out]
  obtain ⟨q, hq'⟩ : ∃ q, p + d = q := ⟨_, rfl⟩
  have eq1 : (p : Int) + (d : Int) = (q : Int) := by rw [← hq']; simp
  have hpq : p ≤ q := by omega
  have hqo : q ≤ o := by omega
  clear hq'
  obtain ⟨v0, hv0⟩ : ∃ v0, vs[0]? = some v0 := ⟨_, List.getElem?_eq_getElem (by rw [HV.out]; omega)⟩
  have c00 := HC.out 0 v0 hv0
  have HM0 := hid (List.mem_of_getElem? hv0)
  have iV : (0 : Int) < (V : Int) := by omega
  have h0v := HBV.out v0 HM0.out
  clear hv0
  go_wp2_with fail
  go_loopw [13, 14, 15] (fun L M i wr => ∃ (k : Nat) (x y : Int), k ≤ V ∧ i = .int .i64 k ∧ L = .int .i64 x ∧ M = .int .i64 y ∧ Hid (x ∈ vs ∧ ∀ z ∈ vs.take k, x ≤ z) ∧ Hid (y ∈ vs ∧ ∀ z ∈ vs.take k, z ≤ y) ∧ wr = w1) (fun _ _ i _ => V - (intOf i).toNat)
  case atStart => exact ⟨0, v0, v0, Nat.zero_le _, rfl, rfl, rfl, hid ⟨HM0.out, fun z hz => by simp at hz⟩, hid ⟨HM0.out, fun z hz => by simp at hz⟩, rfl⟩
  case round =>
    obtain ⟨k, x, y, hk, rfl, rfl, rfl, HX, HY, rfl⟩ := hrel
    by_cases hlt : k < V
    · have j1 : (k : Int) < (V : Int) := by omega
      obtain ⟨v, hv⟩ : ∃ v, vs[k]? = some v := ⟨_, List.getElem?_eq_getElem (by rw [HV.out]; omega)⟩
      have ck := HC.out k v hv
      have HVM := hid hv
      clear hv
      have HX1 := hid (show min x v ∈ vs ∧ ∀ z ∈ vs.take (k + 1), min x v ≤ z from by
        refine ⟨?_, fun z hz => ?_⟩
        · rcases (show min x v = x ∨ min x v = v by omega) with h | h
          · rw [h]; exact HX.out.1
          · rw [h]; exact List.mem_of_getElem? HVM.out
        · rw [List.take_add_one, HVM.out] at hz
          rcases List.mem_append.1 hz with h | h
          · have := HX.out.2 z h; omega
          · have h : z = v := by simpa using h
            omega)
      have HY1 := hid (show max y v ∈ vs ∧ ∀ z ∈ vs.take (k + 1), z ≤ max y v from by
        refine ⟨?_, fun z hz => ?_⟩
        · rcases (show max y v = y ∨ max y v = v by omega) with h | h
          · rw [h]; exact HY.out.1
          · rw [h]; exact List.mem_of_getElem? HVM.out
        · rw [List.take_add_one, HVM.out] at hz
          rcases List.mem_append.1 hz with h | h
          · have := HY.out.2 z h; omega
          · have h : z = v := by simpa using h
            omega)
      go_wp2_with fail
      go_roundw
      case rel => first | exact ⟨k + 1, min x v, max y v, by omega, by go_num, rfl, rfl, HX1, HY1, rfl⟩ | exact ⟨k + 1, by omega, min x v, max y v, by go_num, rfl, rfl, HX1, HY1⟩ | exact ⟨k + 1, min x v, max y v, by omega, by go_num, rfl, rfl, HX1, HY1, trivial⟩
      case measure => simp [intOf]; omega
    · obtain rfl : k = V := by omega
      have j1 : ¬ (k : Int) < (k : Int) := by omega
      have htk : vs.take k = vs := List.take_of_length_le (by rw [HV.out]; exact Nat.le_refl _)
      rw [htk] at HX HY
      have hz1 : 1 ≤ vs.length := by rw [HV.out]; exact hV1
      have r1 := rk_mono (l := vs) (o := o) hz1 hpq hqo
      have r2 := rk_least (l := vs) (o := o) hz1 HX.out.1 HX.out.2
      have r3 := rk_most (l := vs) (o := o) hz1 ho1 HY.out.1 HY.out.2
      have hxb := (HBV.out x HX.out.1).2
      obtain ⟨X1, hX1⟩ : ∃ X1, rk vs o p = X1 := ⟨_, rfl⟩
      obtain ⟨X2, hX2⟩ : ∃ X2, rk vs o q = X2 := ⟨_, rfl⟩
      have R1 := hid (rank_k (some ⟨b, 0, none⟩) k c1 o p vs wr HV.out hV1 (by omega) ho1 (by omega) hpo HSL.out)
      have R2 := hid (fun w' hw' => rank_k (some ⟨b, 0, none⟩) k c1 o q vs w' HV.out hV1 (by omega) ho1 (by omega) hqo (HSL.out.below hw'))
      have R3 := hid (fun w' hw' => rank_k (some ⟨b, 0, none⟩) k c1 o 0 vs w' HV.out hV1 (by omega) ho1 (by omega) (Nat.zero_le _) (HSL.out.below hw'))
      have R4 := hid (fun w' hw' => rank_k (some ⟨b, 0, none⟩) k c1 o o vs w' HV.out hV1 (by omega) ho1 (by omega) (Nat.le_refl _) (HSL.out.below hw'))
      rw [hX1] at r1 R1
      rw [hX2] at r1 R2
      rw [r2] at R3
      rw [r3] at R4
      clear r2 r3 hX1 hX2 htk HX HY
      go_wp2_with fail
      refine R1.out.mono ?_
      rintro e w2 ⟨rfl, b2⟩
      go_wp2_with fail
      refine (R2.out w2 b2).mono ?_
      rintro e w3 ⟨rfl, b3⟩
      have b3 := bgo b2 b3
      go_wp2_with fail
      refine (R3.out w3 b3).mono ?_
      rintro e w4 ⟨rfl, b4⟩
      have b4 := bgo b3 b4
      have ixx : ((x : Int) == x) = true := by simp
      go_wp2_with fail
      refine (R4.out w4 b4).mono ?_
      rintro e w5 ⟨rfl, b5⟩
      have b5 := bgo b4 b5
      have ix : x < 1073741824 := by omega
      go_wp2_with fail
      go_ret
      exact ⟨rfl, bgo B1.out b5⟩
end Go.Proofs.Ytfdendcgmaediaa
