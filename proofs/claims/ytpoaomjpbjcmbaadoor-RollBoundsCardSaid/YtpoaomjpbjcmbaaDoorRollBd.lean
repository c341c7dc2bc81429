/-
  RollBounds: its walk.
-/
import Derived.Test.YtpoaomjpbjcmbaaDoorRollB
namespace Go.Proofs.YtpoaomjpbjcmbaaDoor
open Go.RowKit
set_option linter.unusedVariables false
theorem tdiv_le_of (a b m : Int) (hb : 0 < b) (h : a ≤ m * b) : a.tdiv b ≤ m := by
  by_cases ha : 0 ≤ a
  · rw [Int.tdiv_eq_ediv_of_nonneg ha]
    have h2 := Int.ediv_le_ediv hb h
    rw [Int.mul_ediv_cancel _ (by omega)] at h2; exact h2
  · have e : a = -(-a) := by omega
    rw [e, Int.neg_tdiv, Int.tdiv_eq_ediv_of_nonneg (by omega)]
    have h1 : (-m) * b ≤ -a := by rw [Int.neg_mul]; omega
    have h2 := Int.ediv_le_ediv hb h1
    rw [Int.mul_ediv_cancel _ (by omega)] at h2; omega
theorem le_tdiv_of (a b m : Int) (hb : 0 < b) (h : m * b ≤ a) : m ≤ a.tdiv b := by
  have := tdiv_le_of (-a) b (-m) hb (by rw [Int.neg_mul]; omega)
  rw [Int.neg_tdiv] at this; omega
theorem sum_le (vs : List Int) (m : Int) (h : ∀ v ∈ vs, v ≤ m) : vs.sum ≤ m * vs.length := by
  induction vs with
  | nil => simp
  | cons v vs ih =>
    have h1 := ih fun u hu => h u (by simp [hu])
    have h2 := h v (by simp)
    rw [List.sum_cons, List.length_cons]
    have e : m * ((vs.length + 1 : Nat) : Int) = m * vs.length + m := by rw [Int.natCast_add, Int.mul_add]; simp
    rw [e]; omega
theorem le_sum (vs : List Int) (m : Int) (h : ∀ v ∈ vs, m ≤ v) : m * vs.length ≤ vs.sum := by
  induction vs with
  | nil => simp
  | cons v vs ih =>
    have h1 := ih fun u hu => h u (by simp [hu])
    have h2 := h v (by simp)
    rw [List.sum_cons, List.length_cons]
    have e : m * ((vs.length + 1 : Nat) : Int) = m * vs.length + m := by rw [Int.natCast_add, Int.mul_add]; simp
    rw [e]; omega
theorem any_snoc (vs : List Int) (v m : Int) : (vs ++ [v]).any (· == m) = (vs.any (· == m) || v == m) := by simp
theorem any_of_mem (vs : List Int) (m : Int) (h : m ∈ vs) : vs.any (· == m) = true := by
  rw [List.any_eq_true]; exact ⟨m, h, by simp⟩
theorem rAll_one (v : Int) : rAll [v] = ⟨1, v, v, v⟩ := rfl
set_option maxRecDepth 100000 in
set_option maxHeartbeats 2000000 in
theorem law_rollBounds (A : Option Addr) (n c : Nat) (l : List (Int × Int × Bool)) (first which : Int) (w : World) (hn : n ≤ c) (hc : c ≤ maxLen) (_ : c * 24 ≤ 140737488351232) (hx : Sl w 3 A n (l.flatMap gD)) (hd : ∀ d ∈ l, DotOk d) (hf : -9223372036854775808 ≤ first) (hf1 : first ≤ 9223372036854775807) (ha : -9223372036854775808 ≤ which) (ha1 : which ≤ 9223372036854775807) (ht : ZTab w) :
    Calls Tryd.prog 4 #[.slice A n c, .int .i64 first, .int .i64 which] w fun e w' => e = .returned (.bool true) ∧ Below w.heap.size w w' := by
  have HX := hid hx; have HD := hid hd; have HT := hid ht; clear hx hd ht
  go_enter Tryd.func4, Tryd.ntmps4
  go_wp2_with fail
  refine (samples A n c l first 120 w hn hc HX.out HD.out hf hf1 (by omega)).mono ?_
  rintro e w1 ⟨v1, rfl, ho1⟩
  obtain ⟨hin, hlen⟩ := smps_in first hf hf1 l HD.out 120
  have HI := hid hin
  generalize smps l first 120 = s at *
  obtain ⟨A1, c1, rfl, hc1, hc2⟩ := ho1.form
  obtain ⟨k, hk⟩ : ∃ k, s.length = k := ⟨_, rfl⟩
  rw [hk] at ho1 hc1 hlen ⊢
  have HO1 := hid ho1; have HK := hid hk
  clear ho1 hk hin
  go_wp2_with fail
  refine (roll_Of A1 k c1 s w1 hlen HO1.out.sl HI.out (HT.out.below HO1.out.below)).mono ?_
  have hrc := rAll_c (vals s)
  have hrs := rAll_sm (vals s)
  have hrb := rAll_bd (vals s)
  have hrm := rAll_mem (vals s)
  obtain ⟨r, hr⟩ : ∃ r, rAll (vals s) = r := ⟨_, rfl⟩
  rw [hr] at hrc hrs hrb hrm ⊢
  have hvl : (vals s).length = k := by unfold vals; rw [List.length_map, HK.out]
  rw [hvl] at hrc
  obtain ⟨rc, rn, rx, rs⟩ := r
  simp only at hrc hrs hrb hrm
  have hsb := sum_le (vals s) rx fun v hv => (hrb v hv).2
  have hsc := le_sum (vals s) rn fun v hv => (hrb v hv).1
  rw [hvl, ← hrs] at hsb hsc
  have HRB := hid hrb; have HRM := hid hrm; have HVL := hid hvl; have HR := hid hr; have HSB := hid hsb; have HSC := hid hsc
  clear hrb hrm hvl hr hrs hsb hsc
  subst hrc
  rintro e w2 ⟨rfl, hb2⟩
  have HB2 := hid (bgo' hb2 HO1.out.below)
  have HB2s := hid hb2
  clear hb2
  go_wp2_with fail
  refine (roll_Of _ 1 1 [(0, 3)] _ (by omega) (Sl.fresh1 w2 _ #[.int .i64 0, .int .i64 3] 26 2 1 rfl) ⟨by simp, by intro k x y hx hy; simp at hy⟩ ((HT.out.below HB2.out).below (bnew (bnew (bnil _) _) _))).mono ?_
  rintro e w3 ⟨rfl, hb3⟩
  have HB3 := hid (bgo' hb3 (bnew (bnew HB2.out _) _))
  have hkr : Blk w3 w2.heap.size 35 #[.int .i64 (k : Int), .int .i64 rn, .int .i64 rx, .int .i64 rs] := ((Blk.new w2 _ _).alloc _).below' hb3
  have HO3 := hid ((HO1.out.step HB2s.out).step (bgo' hb3 (bnew (bnew (bnil _) _) _)))
  clear hb3
  have HKR := hid hkr
  have g0 : w3.cell? ⟨w2.heap.size, 0, none⟩ = some (.int .i64 (k : Int)) := hkr.cell 0
  have g1 : w3.cell? ⟨w2.heap.size, 1, none⟩ = some (.int .i64 rn) := hkr.cell 1
  have g2 : w3.cell? ⟨w2.heap.size, 2, none⟩ = some (.int .i64 rx) := hkr.cell 2
  have g3 : w3.cell? ⟨w2.heap.size, 3, none⟩ = some (.int .i64 rs) := hkr.cell 3
  have hlt3 := hkr.lt
  rw [show vals [((0 : Int), (3 : Int))] = [3] from rfl, rAll_one]
  have kk := bneF (show (k : Int) = (k : Int) from rfl)
  by_cases hk0 : k = 0
  · have er : R4.mk (k : Int) rn rx rs = r0 := by
      rw [← HR.out]
      have : s = [] := List.eq_nil_of_length_eq_zero (by rw [HK.out]; exact hk0)
      rw [this]; rfl
    subst hk0
    rw [r0, R4.mk.injEq] at er
    obtain ⟨_, rfl, rfl, rfl⟩ := er
    clear hkr
    go_wp2
    go_ret
    exact ⟨rfl, bnew HB3.out _⟩
  · have ek := beqF (show (k : Int) ≠ 0 by omega)
    clear hkr
    have hk1 : 1 ≤ k := by omega
    have HNE := hid (show vals s ≠ [] by intro h; have := HVL.out; rw [h] at this; simp at this; omega)
    go_wp2
    go_loopw [12, 13, 14] (fun a b i wr => ∃ (j : Nat) (x y : Bool), j ≤ k ∧ i = .int .i64 j ∧ a = .bool x ∧ b = .bool y ∧ Hid (((vals s).take j).any (· == rn) = x) ∧ Hid (((vals s).take j).any (· == rx) = y) ∧ Below w3.heap.size w3 wr) (fun _ _ i _ => k - (intOf i).toNat)
    case atStart => exact ⟨0, false, false, Nat.zero_le _, rfl, rfl, rfl, hid rfl, hid rfl, bnew (bnil w3) _⟩
    case round =>
      obtain ⟨j, x, y, hj, rfl, rfl, rfl, HX1, HY1, hb⟩ := hrel
      have q0 := cell_below hb g0; have q1 := cell_below hb g1; have q2 := cell_below hb g2; have q3 := cell_below hb g3
      have HB := hid hb
      clear hb g0 g1 g2 g3
      by_cases hlt : j < k
      · obtain ⟨ad, z, rfl, hz, c0, c1⟩ := (HO3.out.step HB.out).sl.atS hlt
        obtain ⟨zt, zv⟩ := z
        simp only at c0 c1
        have hzv : (vals s)[j]? = some zv := by unfold vals; rw [List.getElem?_map, hz]; rfl
        have hmm := HRB.out zv (List.mem_of_getElem? hzv)
        have HA := hid (show ((vals s).take (j + 1)).any (· == rn) = (x || zv == rn) by rw [take_next hzv, any_snoc, HX1.out])
        have HC := hid (show ((vals s).take (j + 1)).any (· == rx) = (y || zv == rx) by rw [take_next hzv, any_snoc, HY1.out])
        obtain ⟨u, hu⟩ : ∃ u, (zv == rn) = u := ⟨_, rfl⟩
        obtain ⟨v, hv⟩ : ∃ u, (zv == rx) = u := ⟨_, rfl⟩
        rw [hu] at HA; rw [hv] at HC
        have d1 : decide (zv < rn) = false := decide_eq_false (by omega)
        have d2 : decide (rx < zv) = false := decide_eq_false (by omega)
        have i1 : (j : Int) < (k : Int) := by omega
        clear hz hzv hmm
        cases x <;> cases y
        all_goals
          go_wp2_with fail
          go_quiet (fail)
          go_wp2_with fail
          go_quiet (fail)
          go_wp2_with fail
          go_quiet (fail)
          go_wp2
          go_roundw
          case rel => exact ⟨j + 1, _, _, by omega, by go_num, rfl, rfl, HA, HC, below_drewN HB.out _⟩
          case measure => simp [intOf]; omega
      · obtain rfl : j = k := by omega
        obtain rfl : x = true := by rw [← HX1.out, List.take_of_length_le (by rw [HVL.out]; omega)]; exact any_of_mem _ _ (HRM.out HNE.out).1
        obtain rfl : y = true := by rw [← HY1.out, List.take_of_length_le (by rw [HVL.out]; omega)]; exact any_of_mem _ _ (HRM.out HNE.out).2
        have i1 : ¬ (j : Int) < (j : Int) := by omega
        have hm1 := le_tdiv_of rs (j : Int) rn (by omega) HSC.out
        have hm2 := tdiv_le_of rs (j : Int) rx (by omega) HSB.out
        obtain ⟨m, hm⟩ : ∃ m, rs.tdiv (j : Int) = m := ⟨_, rfl⟩
        rw [hm] at hm1 hm2
        have m1 : decide (rn ≤ m) = true := decide_eq_true hm1
        have m2 : decide (m ≤ rx) = true := decide_eq_true hm2
        have hmb : wrap64 m = m := by
          have h1 := HI.out.v
          obtain ⟨g1, g2⟩ := HRM.out HNE.out
          obtain ⟨z1, hz1, e1⟩ := List.mem_map.1 g1
          obtain ⟨z2, hz2, e2⟩ := List.mem_map.1 g2
          have h3 := h1 z1 hz1
          have h4 := h1 z2 hz2
          rw [e1] at h3; rw [e2] at h4
          exact IntWalk.wrap64_in _ ⟨by omega, by omega⟩
        clear hm1 hm2
        have hp := pk_lt which (j : Int) (by omega)
        obtain ⟨p, hpp⟩ : ∃ p, pk which (j : Int) = p := ⟨_, rfl⟩
        rw [hpp] at hp
        have hpj : p < j := by omega
        obtain ⟨ad, z, rfl, hz, c0, c1⟩ := (HO3.out.step HB.out).sl.atS hpj
        obtain ⟨zt, zv⟩ := z
        simp only at c0 c1
        have hzv : (vals s)[p]? = some zv := by unfold vals; rw [List.getElem?_map, hz]; rfl
        have hmm := HRB.out zv (List.mem_of_getElem? hzv)
        have d2 : decide (zv ≤ rx) = true := decide_eq_true hmm.2
        have HC := fun W => hid (picked which (j : Int) W (by omega) ha ha1 (by omega))
        rw [hpp] at HC
        have pj1 : (p : Int) < (j : Int) := by omega
        clear hz hzv hmm hp hpp
        go_wp2_with fail
        go_quiet ((go_at_call 15; exact Calls.quiet_of_same ((HC _).out.mono fun e w' h => ⟨h.1, h.2.symm⟩)))
        go_wp2
        go_ret
        exact ⟨rfl, below_drewN (bgo' HB.out HB3.out) _⟩
end Go.Proofs.YtpoaomjpbjcmbaaDoor
