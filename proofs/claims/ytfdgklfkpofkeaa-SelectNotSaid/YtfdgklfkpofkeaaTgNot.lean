/-
  barographkeep.SelectNot: its walk.
-/
import Derived.Test.YtfdgklfkpofkeaaTgCho
namespace Go.Proofs.Ytfdgklfkpofkeaa
open Go.RowKit Go.Maps
set_option linter.unusedVariables false

/-- the other matcher -/
def flipM (m : VMatch) : VMatch := ⟨if m.wth then m.kd + 1 else m.kd - 1, m.t⟩
theorem flip_ok {m : VMatch} (h : MOk m) : MOk (flipM m) := by
  obtain ⟨kd, t⟩ := m
  obtain ⟨h1, h2, h3, h4, h5⟩ := h
  have h1 : 1 ≤ kd := h1
  have h2 : kd ≤ 4 := h2
  have hk : kd = 1 ∨ kd = 2 ∨ kd = 3 ∨ kd = 4 := by omega
  rcases hk with rfl | rfl | rfl | rfl
  · show MOk (⟨2, t⟩ : VMatch)
    exact ⟨show 1 ≤ 2 by omega, show 2 ≤ 4 by omega, h3, fun _ => h4 (show 1 ≤ 2 by omega), fun h => absurd (show 3 ≤ 2 from h) (by omega)⟩
  · show MOk (⟨1, t⟩ : VMatch)
    exact ⟨show 1 ≤ 1 by omega, show 1 ≤ 4 by omega, h3, fun _ => h4 (show 2 ≤ 2 by omega), fun h => absurd (show 3 ≤ 1 from h) (by omega)⟩
  · show MOk (⟨4, t⟩ : VMatch)
    exact ⟨show 1 ≤ 4 by omega, show 4 ≤ 4 by omega, h3, fun h => absurd (show 4 ≤ 2 from h) (by omega), fun _ => h5 (show 3 ≤ 3 by omega)⟩
  · show MOk (⟨3, t⟩ : VMatch)
    exact ⟨show 1 ≤ 3 by omega, show 3 ≤ 4 by omega, h3, fun h => absurd (show 3 ≤ 2 from h) (by omega), fun _ => h5 (show 3 ≤ 4 by omega)⟩
theorem flip_is {m : VMatch} (h : MOk m) (x : Nat) : (flipM m).is x = !(m.is x) := by
  obtain ⟨kd, t⟩ := m
  obtain ⟨h1, h2, -⟩ := h
  have h1 : 1 ≤ kd := h1
  have h2 : kd ≤ 4 := h2
  have hk : kd = 1 ∨ kd = 2 ∨ kd = 3 ∨ kd = 4 := by omega
  rcases hk with rfl | rfl | rfl | rfl
  all_goals
    unfold VMatch.is flipM VMatch.wth
    simp only [Nat.reduceBEq, Bool.or_true, Bool.or_false, if_true, Bool.false_eq_true, if_false, Nat.reduceAdd, Nat.reduceSub]
    cases hasT x t <;> rfl
theorem meant_flip (ns : List Nat) {m : VMatch} (h : MOk m) (q : Nat) : (meantB ns [m] q == meantB ns [flipM m] q) = false := by
  unfold meantB
  simp only [List.all_cons, List.all_nil, Bool.and_true, flip_is h]
  cases m.is (ns.getD q 0) <;> rfl
set_option maxRecDepth 100000 in
set_option maxHeartbeats 8000000 in
theorem select_not (A : Option Addr) (L c : Nat) (l : List Int) (m : VMark) (w : World) (hS : Sl w 1 A L (ints l)) (hr : ∀ x ∈ l, -9223372036854775808 ≤ x ∧ x ≤ 9223372036854775807) (hL : L ≤ 4611686018427387904) (hm : m.ok) :
    Calls Try.prog 9 #[.slice A L c, .agg #[.int .i64 m.kind, .int .i64 m.key, .int .i64 m.value]] w fun e w' => e = .returned (.bool true) ∧ Below w.heap.size w w' := by
  have HS := hid hS
  have HR := hid hr
  have HM := hid hm
  obtain ⟨X, hX⟩ : ∃ X, w.heap.size = X := ⟨_, rfl⟩
  obtain ⟨W0, hW0⟩ : ∃ W0, w.alloc (.cells #[.int .i64 m.kind, .int .i64 m.key, .int .i64 m.value] 48) = W0 := ⟨_, rfl⟩
  have BX := hid (show Blk W0 X 48 #[.int .i64 m.kind, .int .i64 m.key, .int .i64 m.value] by rw [← hW0, ← hX]; exact Blk.new w _ _)
  have Z0 := hid (show Below w.heap.size w W0 by rw [← hW0]; exact bnew (bnil w) _)
  have HW0 := hid hW0
  have HX := hid hX
  clear hX hW0 hS hr hm
  go_enter Try.func9, Try.ntmps9
  go_upto_region 1 with fail
  rw [HW0.out]
  simp only [HX.out]
  go_wp2_with fail
  refine (index_of A L c l W0 (HS.out.below Z0.out) HR.out hL).mono ?_
  rintro e w1 ⟨ns, A1, n, c1, rfl, hnc, hse, z1⟩
  have Z1 := hid z1
  have HSE := hid hse
  have BX1 := hid (BX.out.below' z1)
  have hn30 := hse.most
  clear z1 hse
  have x0 := BX1.out.cell 0
  have x1 := BX1.out.cell 1
  have x2 := BX1.out.cell 2
  go_wp2_with fail
  refine (match_of m w1 HM.out).mono ?_
  rintro e w2 ⟨rfl, z2⟩
  have HSE2 := hid (HSE.out.below z2)
  have Z2 := hid (bgo Z0.out (bgo Z1.out z2))
  have HMO := hid (matchOf_ok m)
  obtain ⟨v, hv⟩ : ∃ v, matchOf m = v := ⟨_, rfl⟩
  rw [hv] at HMO ⊢
  clear hv z2 x0 x1 x2
  obtain ⟨kd, k, j⟩ := v
  have h1 : 1 ≤ kd := HMO.out.1
  have h4 : kd ≤ 4 := HMO.out.2.1
  obtain ⟨Y, hY⟩ : ∃ Y, w2.heap.size = Y := ⟨_, rfl⟩
  obtain ⟨W3, hW3⟩ : ∃ W3, (w2.alloc (.cells #[.int .i64 (kd : Int), .string (kS k), .string (vS j)] 45)).alloc (.cells #[.int .i64 (kd : Int), .string (kS k), .string (vS j)] 45) = W3 := ⟨_, rfl⟩
  have HW3 := hid hW3
  have HY := hid hY
  have BY := hid (show Blk W3 Y 45 #[.int .i64 (kd : Int), .string (kS k), .string (vS j)] by rw [← hW3, ← hY]; exact (Blk.new w2 _ _).alloc _)
  have BV := hid (show Blk W3 (Y + 1) 45 #[.int .i64 (kd : Int), .string (kS k), .string (vS j)] by
    rw [← hW3, ← hY]
    have := Blk.new (w2.alloc (.cells #[.int .i64 (kd : Int), .string (kS k), .string (vS j)] 45)) 45 #[.int .i64 (kd : Int), .string (kS k), .string (vS j)]
    rwa [show (w2.alloc (.cells #[.int .i64 (kd : Int), .string (kS k), .string (vS j)] 45)).heap.size = w2.heap.size + 1 by simp] at this)
  have Z3 := hid (show Below w2.heap.size w2 W3 by rw [← hW3]; exact bnew (bnew (bnil w2) _) _)
  clear hW3 hY
  go_upto_region 4 with fail
  rw [HW3.out]
  simp only [HY.out]
  by_cases hk1 : kd = 1
  · have e1 : ((kd : Int) == 1) = true := beqT (by omega)
    obtain ⟨k', hk'⟩ : ∃ k', kd + 1 = k' := ⟨_, rfl⟩
    have HFL := hid (show flipM ⟨kd, (k, j)⟩ = ⟨k', (k, j)⟩ by rw [← hk', hk1]; rfl)
    have kk : (kd : Int) + 1 = (k' : Int) := by omega
    have kw : IntKind.i64.wrap (k' : Int) = (k' : Int) := IntWalk.i64_in _ (by omega)
    clear hk1 hk'
    have y0 := BY.out.cell 0
    have y1 := BY.out.cell 1
    have y2 := BY.out.cell 2
    have v0 := BV.out.cell 0
    have v1 := BV.out.cell 1
    have v2 := BV.out.cell 2
    have v0f := BV.out.frozen 0
    have hYV : Y ≠ Y + 1 := by omega
    have hYV' : Y + 1 ≠ Y := by omega
    have hsz : W3.heap.size = Y + 2 := by have := BV.out.lt; rw [← HW3.out]; simp [HY.out]
    obtain ⟨W4, hW4⟩ : ∃ W4, W3.setCell ⟨Y + 1, 0, none⟩ (.int .i64 (k' : Int)) = W4 := ⟨_, rfl⟩
    have HW4 := hid hW4
    have Z4 := hid (show Below w2.heap.size w2 W4 by rw [← hW4]; exact Z3.out.setCell (p := ⟨Y + 1, 0, none⟩) (by rw [HY.out]; exact Nat.le_succ _) _)
    have BY4 := hid (show Blk W4 Y 45 #[.int .i64 (kd : Int), .string (kS k), .string (vS j)] by rw [← hW4]; exact BY.out.far (p := ⟨Y + 1, 0, none⟩) hYV _)
    have BV4 := hid (show Blk W4 (Y + 1) 45 #[.int .i64 (k' : Int), .string (kS k), .string (vS j)] by rw [← hW4]; exact BV.out.set_ 0 _)
    have y40 := BY4.out.cell 0
    have y41 := BY4.out.cell 1
    have y42 := BY4.out.cell 2
    clear hW4
    go_upto_region 9 with fail
    rw [HW4.out]
    clear y0 y1 y2 v0 v1 v2
    go_wp2_with fail
    refine (chosen_of A1 _ n c1 1 _ ns [⟨kd, (k, j)⟩] _ hnc ((HSE2.out.below Z4.out).below (bnew (bnil _) _)) (by omega) (Sl.fresh' W4 #[.int .i64 (kd : Int), .string (kS k), .string (vS j)] 45 3 1 _ rfl rfl) rfl (by intro x hx; rw [List.mem_singleton.1 hx]; exact HMO.out)).mono ?_
    rintro e w5 ⟨A5, c5, rfl, z5, b5⟩
    have Z5 := hid (bgo Z4.out (bgo (bnew (bnil W4) _) z5))
    have BV5 := hid ((BV4.out.alloc _).below' z5)
    have BL5 := hid b5
    clear z5 b5 y40 y41 y42
    have u0 := BV5.out.cell 0
    have u1 := BV5.out.cell 1
    have u2 := BV5.out.cell 2
    go_wp2_with fail
    refine (chosen_of A1 _ n c1 1 _ ns [⟨k', (k, j)⟩] _ hnc ((HSE2.out.below Z5.out).below (bnew (bnil _) _)) (by omega) (Sl.fresh' w5 #[.int .i64 (k' : Int), .string (kS k), .string (vS j)] 45 3 1 _ rfl rfl) rfl (by intro x hx; rw [List.mem_singleton.1 hx, ← HFL.out]; exact flip_ok HMO.out)).mono ?_
    rintro e w6 ⟨A6, c6, rfl, z6, b6⟩
    have Z6 := hid (bgo Z5.out (bgo (bnew (bnil w5) _) z6))
    have BL5b := hid (BL5.out.below (bgo (bnew (bnil w5) _) z6))
    have BL6 := hid b6
    clear z6 b6 u0 u1 u2
    go_wp2_with fail
    go_loopw [12] (fun q wr => ∃ i : Nat, i ≤ n ∧ q = .int .i64 i ∧ Hid (Below w6.heap.size w6 wr)) (fun q _ => n - (intOf q).toNat)
    case atStart => exact ⟨0, Nat.zero_le _, rfl, hid (bnil _)⟩
    case round =>
      obtain ⟨i, hi, rfl, HZ⟩ := hrel
      by_cases hlt : i < n
      · have i1 : (i : Int) < (n : Int) := by omega
        obtain ⟨a5, rfl, t5⟩ := (BL5b.out.below HZ.out) i hlt
        obtain ⟨a6, rfl, t6⟩ := (BL6.out.below HZ.out) i hlt
        have hq : (meantB ns [⟨kd, (k, j)⟩] i == meantB ns [⟨k', (k, j)⟩] i) = false := by rw [← HFL.out]; exact meant_flip ns HMO.out i
        obtain ⟨p1, hp1⟩ : ∃ p1, meantB ns [⟨kd, (k, j)⟩] i = p1 := ⟨_, rfl⟩
        obtain ⟨p2, hp2⟩ : ∃ p2, meantB ns [⟨k', (k, j)⟩] i = p2 := ⟨_, rfl⟩
        rw [hp1] at hq t5
        rw [hp2] at hq t6
        clear hp1 hp2
        go_wp2_with fail
        go_region
        all_goals
          go_wp2
          go_roundw
          case rel => exact ⟨i + 1, by omega, by go_num, hid HZ.out.drew⟩
          case measure => simp [intOf] <;> omega
      · obtain rfl : i = n := by omega
        go_wp2
        go_ret
        exact ⟨rfl, bgo Z2.out (bgo Z6.out HZ.out)⟩
  · by_cases hk3 : kd = 3
    · have e1 : ((kd : Int) == 1) = false := beqF (by omega)
      have e3 : ((kd : Int) == 3) = true := beqT (by omega)
      obtain ⟨k', hk'⟩ : ∃ k', kd + 1 = k' := ⟨_, rfl⟩
      have HFL := hid (show flipM ⟨kd, (k, j)⟩ = ⟨k', (k, j)⟩ by rw [← hk', hk3]; rfl)
      have kk : (kd : Int) + 1 = (k' : Int) := by omega
      have kw : IntKind.i64.wrap (k' : Int) = (k' : Int) := IntWalk.i64_in _ (by omega)
      clear hk1 hk3 hk'
      have y0 := BY.out.cell 0
      have y1 := BY.out.cell 1
      have y2 := BY.out.cell 2
      have v0 := BV.out.cell 0
      have v1 := BV.out.cell 1
      have v2 := BV.out.cell 2
      have v0f := BV.out.frozen 0
      have hYV : Y ≠ Y + 1 := by omega
      have hYV' : Y + 1 ≠ Y := by omega
      have hsz : W3.heap.size = Y + 2 := by have := BV.out.lt; rw [← HW3.out]; simp [HY.out]
      obtain ⟨W4, hW4⟩ : ∃ W4, W3.setCell ⟨Y + 1, 0, none⟩ (.int .i64 (k' : Int)) = W4 := ⟨_, rfl⟩
      have HW4 := hid hW4
      have Z4 := hid (show Below w2.heap.size w2 W4 by rw [← hW4]; exact Z3.out.setCell (p := ⟨Y + 1, 0, none⟩) (by rw [HY.out]; exact Nat.le_succ _) _)
      have BY4 := hid (show Blk W4 Y 45 #[.int .i64 (kd : Int), .string (kS k), .string (vS j)] by rw [← hW4]; exact BY.out.far (p := ⟨Y + 1, 0, none⟩) hYV _)
      have BV4 := hid (show Blk W4 (Y + 1) 45 #[.int .i64 (k' : Int), .string (kS k), .string (vS j)] by rw [← hW4]; exact BV.out.set_ 0 _)
      have y40 := BY4.out.cell 0
      have y41 := BY4.out.cell 1
      have y42 := BY4.out.cell 2
      clear hW4
      go_upto_region 9 with fail
      rw [HW4.out]
      clear y0 y1 y2 v0 v1 v2
      go_wp2_with fail
      refine (chosen_of A1 _ n c1 1 _ ns [⟨kd, (k, j)⟩] _ hnc ((HSE2.out.below Z4.out).below (bnew (bnil _) _)) (by omega) (Sl.fresh' W4 #[.int .i64 (kd : Int), .string (kS k), .string (vS j)] 45 3 1 _ rfl rfl) rfl (by intro x hx; rw [List.mem_singleton.1 hx]; exact HMO.out)).mono ?_
      rintro e w5 ⟨A5, c5, rfl, z5, b5⟩
      have Z5 := hid (bgo Z4.out (bgo (bnew (bnil W4) _) z5))
      have BV5 := hid ((BV4.out.alloc _).below' z5)
      have BL5 := hid b5
      clear z5 b5 y40 y41 y42
      have u0 := BV5.out.cell 0
      have u1 := BV5.out.cell 1
      have u2 := BV5.out.cell 2
      go_wp2_with fail
      refine (chosen_of A1 _ n c1 1 _ ns [⟨k', (k, j)⟩] _ hnc ((HSE2.out.below Z5.out).below (bnew (bnil _) _)) (by omega) (Sl.fresh' w5 #[.int .i64 (k' : Int), .string (kS k), .string (vS j)] 45 3 1 _ rfl rfl) rfl (by intro x hx; rw [List.mem_singleton.1 hx, ← HFL.out]; exact flip_ok HMO.out)).mono ?_
      rintro e w6 ⟨A6, c6, rfl, z6, b6⟩
      have Z6 := hid (bgo Z5.out (bgo (bnew (bnil w5) _) z6))
      have BL5b := hid (BL5.out.below (bgo (bnew (bnil w5) _) z6))
      have BL6 := hid b6
      clear z6 b6 u0 u1 u2
      go_wp2_with fail
      go_loopw [12] (fun q wr => ∃ i : Nat, i ≤ n ∧ q = .int .i64 i ∧ Hid (Below w6.heap.size w6 wr)) (fun q _ => n - (intOf q).toNat)
      case atStart => exact ⟨0, Nat.zero_le _, rfl, hid (bnil _)⟩
      case round =>
        obtain ⟨i, hi, rfl, HZ⟩ := hrel
        by_cases hlt : i < n
        · have i1 : (i : Int) < (n : Int) := by omega
          obtain ⟨a5, rfl, t5⟩ := (BL5b.out.below HZ.out) i hlt
          obtain ⟨a6, rfl, t6⟩ := (BL6.out.below HZ.out) i hlt
          have hq : (meantB ns [⟨kd, (k, j)⟩] i == meantB ns [⟨k', (k, j)⟩] i) = false := by rw [← HFL.out]; exact meant_flip ns HMO.out i
          obtain ⟨p1, hp1⟩ : ∃ p1, meantB ns [⟨kd, (k, j)⟩] i = p1 := ⟨_, rfl⟩
          obtain ⟨p2, hp2⟩ : ∃ p2, meantB ns [⟨k', (k, j)⟩] i = p2 := ⟨_, rfl⟩
          rw [hp1] at hq t5
          rw [hp2] at hq t6
          clear hp1 hp2
          go_wp2_with fail
          go_region
          all_goals
            go_wp2
            go_roundw
            case rel => exact ⟨i + 1, by omega, by go_num, hid HZ.out.drew⟩
            case measure => simp [intOf] <;> omega
        · obtain rfl : i = n := by omega
          go_wp2
          go_ret
          exact ⟨rfl, bgo Z2.out (bgo Z6.out HZ.out)⟩
    · have e1 : ((kd : Int) == 1) = false := beqF (by omega)
      have e3 : ((kd : Int) == 3) = false := beqF (by omega)
      obtain ⟨k', hk'⟩ : ∃ k', kd - 1 = k' := ⟨_, rfl⟩
      have HFL := hid (show flipM ⟨kd, (k, j)⟩ = ⟨k', (k, j)⟩ by
        have : kd = 2 ∨ kd = 4 := by omega
        rw [← hk']; rcases this with rfl | rfl <;> rfl)
      have kk : (kd : Int) - 1 = (k' : Int) := by omega
      have kw : IntKind.i64.wrap (k' : Int) = (k' : Int) := IntWalk.i64_in _ (by omega)
      clear hk1 hk3 hk'
      have y0 := BY.out.cell 0
      have y1 := BY.out.cell 1
      have y2 := BY.out.cell 2
      have v0 := BV.out.cell 0
      have v1 := BV.out.cell 1
      have v2 := BV.out.cell 2
      have v0f := BV.out.frozen 0
      have hYV : Y ≠ Y + 1 := by omega
      have hYV' : Y + 1 ≠ Y := by omega
      have hsz : W3.heap.size = Y + 2 := by have := BV.out.lt; rw [← HW3.out]; simp [HY.out]
      obtain ⟨W4, hW4⟩ : ∃ W4, W3.setCell ⟨Y + 1, 0, none⟩ (.int .i64 (k' : Int)) = W4 := ⟨_, rfl⟩
      have HW4 := hid hW4
      have Z4 := hid (show Below w2.heap.size w2 W4 by rw [← hW4]; exact Z3.out.setCell (p := ⟨Y + 1, 0, none⟩) (by rw [HY.out]; exact Nat.le_succ _) _)
      have BY4 := hid (show Blk W4 Y 45 #[.int .i64 (kd : Int), .string (kS k), .string (vS j)] by rw [← hW4]; exact BY.out.far (p := ⟨Y + 1, 0, none⟩) hYV _)
      have BV4 := hid (show Blk W4 (Y + 1) 45 #[.int .i64 (k' : Int), .string (kS k), .string (vS j)] by rw [← hW4]; exact BV.out.set_ 0 _)
      have y40 := BY4.out.cell 0
      have y41 := BY4.out.cell 1
      have y42 := BY4.out.cell 2
      clear hW4
      go_upto_region 9 with fail
      rw [HW4.out]
      clear y0 y1 y2 v0 v1 v2
      go_wp2_with fail
      refine (chosen_of A1 _ n c1 1 _ ns [⟨kd, (k, j)⟩] _ hnc ((HSE2.out.below Z4.out).below (bnew (bnil _) _)) (by omega) (Sl.fresh' W4 #[.int .i64 (kd : Int), .string (kS k), .string (vS j)] 45 3 1 _ rfl rfl) rfl (by intro x hx; rw [List.mem_singleton.1 hx]; exact HMO.out)).mono ?_
      rintro e w5 ⟨A5, c5, rfl, z5, b5⟩
      have Z5 := hid (bgo Z4.out (bgo (bnew (bnil W4) _) z5))
      have BV5 := hid ((BV4.out.alloc _).below' z5)
      have BL5 := hid b5
      clear z5 b5 y40 y41 y42
      have u0 := BV5.out.cell 0
      have u1 := BV5.out.cell 1
      have u2 := BV5.out.cell 2
      go_wp2_with fail
      refine (chosen_of A1 _ n c1 1 _ ns [⟨k', (k, j)⟩] _ hnc ((HSE2.out.below Z5.out).below (bnew (bnil _) _)) (by omega) (Sl.fresh' w5 #[.int .i64 (k' : Int), .string (kS k), .string (vS j)] 45 3 1 _ rfl rfl) rfl (by intro x hx; rw [List.mem_singleton.1 hx, ← HFL.out]; exact flip_ok HMO.out)).mono ?_
      rintro e w6 ⟨A6, c6, rfl, z6, b6⟩
      have Z6 := hid (bgo Z5.out (bgo (bnew (bnil w5) _) z6))
      have BL5b := hid (BL5.out.below (bgo (bnew (bnil w5) _) z6))
      have BL6 := hid b6
      clear z6 b6 u0 u1 u2
      go_wp2_with fail
      go_loopw [12] (fun q wr => ∃ i : Nat, i ≤ n ∧ q = .int .i64 i ∧ Hid (Below w6.heap.size w6 wr)) (fun q _ => n - (intOf q).toNat)
      case atStart => exact ⟨0, Nat.zero_le _, rfl, hid (bnil _)⟩
      case round =>
        obtain ⟨i, hi, rfl, HZ⟩ := hrel
        by_cases hlt : i < n
        · have i1 : (i : Int) < (n : Int) := by omega
          obtain ⟨a5, rfl, t5⟩ := (BL5b.out.below HZ.out) i hlt
          obtain ⟨a6, rfl, t6⟩ := (BL6.out.below HZ.out) i hlt
          have hq : (meantB ns [⟨kd, (k, j)⟩] i == meantB ns [⟨k', (k, j)⟩] i) = false := by rw [← HFL.out]; exact meant_flip ns HMO.out i
          obtain ⟨p1, hp1⟩ : ∃ p1, meantB ns [⟨kd, (k, j)⟩] i = p1 := ⟨_, rfl⟩
          obtain ⟨p2, hp2⟩ : ∃ p2, meantB ns [⟨k', (k, j)⟩] i = p2 := ⟨_, rfl⟩
          rw [hp1] at hq t5
          rw [hp2] at hq t6
          clear hp1 hp2
          go_wp2_with fail
          go_region
          all_goals
            go_wp2
            go_roundw
            case rel => exact ⟨i + 1, by omega, by go_num, hid HZ.out.drew⟩
            case measure => simp [intOf] <;> omega
        · obtain rfl : i = n := by omega
          go_wp2
          go_ret
          exact ⟨rfl, bgo Z2.out (bgo Z6.out HZ.out)⟩
end Go.Proofs.Ytfdgklfkpofkeaa
