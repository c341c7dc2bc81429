/-
  SemaMost: its walk. Written by gen_sema.py.
-/
import Derived.Test.YtnoinojhocicjaaDoorSemaMach
import Derived.Test.YtnoinojhocicjaaDoorSemaLaw
import Derived.Test.YtnoinojhocicjaaDoorSched
import Derived.Deep.RegionHeld
namespace Go.Proofs.YtnoinojhocicjaaDoor
open Go.RowKit
set_option linter.unusedVariables false

theorem cells3 {w w' : World} {p q r : Addr} {a b c : Value} (h : Below w.heap.size w w') (hp : w.cell? p = some a) (hq : w.cell? q = some b) (hr : w.cell? r = some c) : w'.cell? p = some a ∧ w'.cell? q = some b ∧ w'.cell? r = some c := ⟨cell_below h hp, cell_below h hq, cell_below h hr⟩
theorem filter_take {P : Dg → Bool} {ds : List Dg} {k : Nat} {d : Dg} (h : ds[k]? = some d) : ((ds.take (k + 1)).filter P).length = ((ds.take k).filter P).length + (if P d then 1 else 0) := by
  rw [List.take_add_one, h, List.filter_append, List.length_append]
  cases hp : P d <;> simp [hp]
set_option maxHeartbeats 8000000 in
set_option maxRecDepth 100000 in
theorem law_semaMost (xr xw : Int) (S : Option Addr) (p q : Nat) (bs : List UInt8) (w : World) (ha : -9223372036854775808 ≤ xr) (ha1 : xr ≤ 9223372036854775807) (hb : -9223372036854775808 ≤ xw) (hb1 : xw ≤ 9223372036854775807) (hp : p ≤ q) (hq : q ≤ maxLen) (_ : q * 1 ≤ 140737488351232) (hS : Sl w 1 S p (byts bs)) (hT : STab w) :
    Calls Tryd.prog 14 #[.int .i64 xr, .int .i64 xw, .slice S p q] w fun e w' => e = .returned (.bool true) ∧ Below w.heap.size w w' := by
  have HS := hid hS; have HT := hid hT
  clear hS hT
  have hpl : p ≤ 9223372036854775807 := by unfold maxLen at hq; omega
  clear hq
  have m1 := pk_lt xr 4 (by decide)
  have k1 := pk_lt xw 30 (by decide)
  obtain ⟨R, hR⟩ : ∃ R : Nat, wrap64 (1 + (pk xr 4 : Int)) = (R : Int) ∧ R = 1 + pk xr 4 := ⟨1 + pk xr 4, by rw [wrap_sm (by omega) (by omega)]; omega, rfl⟩
  obtain ⟨wk, hwk⟩ : ∃ wk : Nat, wrap64 (1 + (pk xw 30 : Int)) = (wk : Int) ∧ wk = 1 + pk xw 30 := ⟨1 + pk xw 30, by rw [wrap_sm (by omega) (by omega)]; omega, rfl⟩
  have hR1 : 1 ≤ R := by omega
  have hR4 : R ≤ 4 := by omega
  have hwk1 : 1 ≤ wk := by omega
  have hwk40 : wk ≤ 40 := by omega
  have HR := hid hR.1; have HWK := hid hwk.1
  clear hR hwk m1 k1
  go_enter Tryd.func14, Tryd.ntmps14
  go_wp2_with fail
  refine (picked xr 4 w (by decide) ha ha1 (by decide)).mono ?_
  rintro e w' ⟨rfl, rfl⟩
  go_wp2_with fail
  refine (picked xw 30 w (by decide) hb hb1 (by decide)).mono ?_
  rintro e w' ⟨rfl, rfl⟩
  go_wp2_with fail
  rw [HR.out, HWK.out]
  refine (sema_machine R 6 wk w hR1 hR4 hwk40 (by decide) HT.out).mono ?_
  rintro e w1 hp1
  obtain ⟨AW, cW, Cb, T, cv, tv, av, rfl, hW, hM, b1⟩ := hp1
  have HM := hid hM; have B1 := hid b1; have HW := hid hW
  clear hM b1 hW
  obtain ⟨X, hX⟩ : ∃ X, w1.heap.size = X := ⟨_, rfl⟩
  go_upto_region 3 with fail
  have HX0 := hid (blkN w1 27 #[.slice AW 1 cW, .slice (some ⟨Cb, 0, none⟩) 3 3, .slice (some ⟨T, 0, none⟩) 4 4] X hX)
  have BA := hid (bgo B1.out (bnew (bnil w1) (.cells #[.slice AW 1 cW, .slice (some ⟨Cb, 0, none⟩) 3 3, .slice (some ⟨T, 0, none⟩) 4 4] 27)))
  have HMA := hid (rmach_at (ws := [(R : Int)]) (HM.out.below (bnew (bnil w1) (.cells #[.slice AW 1 cW, .slice (some ⟨Cb, 0, none⟩) 3 3, .slice (some ⟨T, 0, none⟩) 4 4] 27))) (by omega) (by decide) (by decide) (by decide) rfl rfl enter_sh leave_sh)
  have HWA := hid (own_below HW.out (bnew (bnil w1) (.cells #[.slice AW 1 cW, .slice (some ⟨Cb, 0, none⟩) 3 3, .slice (some ⟨T, 0, none⟩) 4 4] 27)))
  generalize World.alloc w1 _ = wA at *
  clear hX HM HW
  have y0 : wA.cell? ⟨X, 0, none⟩ = some (.slice AW 1 cW) := HX0.out.cell 0
  have y1 : wA.cell? ⟨X, 1, none⟩ = some (.slice (some ⟨Cb, 0, none⟩) 3 3) := HX0.out.cell 1
  have y2 : wA.cell? ⟨X, 2, none⟩ = some (.slice (some ⟨T, 0, none⟩) 4 4) := HX0.out.cell 2
  refine wp_region_held_drew (S := (fun w' => w'.cell? ⟨X, 0, none⟩ = some (.slice AW 1 cW) ∧ w'.cell? ⟨X, 1, none⟩ = some (.slice (some ⟨Cb, 0, none⟩) 3 3) ∧ w'.cell? ⟨X, 2, none⟩ = some (.slice (some ⟨T, 0, none⟩) 4 4))) (by kernel_rfl) ?_ (fun hHeld => ?_)
  · (try dsimp only); (first | assumption | exact ⟨y0, y1, y2⟩ | exact ⟨z0, z1, z2⟩ | exact ⟨u0, u1, u2⟩)
  refine wpAnyH_take (i := 0) (oi := ⟨some 28, _, _, _, _, _⟩) (v := ?_) rfl (by kernel_rfl) (by kernel_rfl) (by kernel_rfl) (fun _ _ _ h => h) (Or.inl ⟨by rfl, ?_⟩) (by assumption) ?_
  rotate_left
  · intro w hSw; (try dsimp only at hSw); go_simp <;> with_reducible rfl
  try simp only [Act.put, List.setIfInBounds_toArray, List.set_cons_zero, List.set_cons_succ]
  refine wpAnyH_take (i := 1) (oi := ⟨some 29, _, _, _, _, _⟩) (v := ?_) rfl (by kernel_rfl) (by kernel_rfl) (by kernel_rfl) (fun _ _ _ h => h) (Or.inl ⟨by rfl, ?_⟩) (by assumption) ?_
  rotate_left
  · intro w hSw; (try dsimp only at hSw); go_simp <;> with_reducible rfl
  try simp only [Act.put, List.setIfInBounds_toArray, List.set_cons_zero, List.set_cons_succ]
  refine wpAnyH_ready (rs := [2]) (by kernel_rfl) (by simp) ?_
  refine AllReadyH.cons (o := ⟨some 30, _, _, _, _, _⟩) rfl (fun K hK => ?_) AllReadyH.nil
  go_simp
  refine (schedule_n S p q 4 3000 bs _ hpl (by decide) (by decide) (by decide) (HS.out.below (bgo BA.out (bnil wA).drew))).mono ?_; rintro e w2 ⟨v, rfl, ho⟩; have hl4 : (schedN bs 4 3000).length ≤ 3000 := (by have := schedN_len bs 4 3000; omega); have HLT := hid (schedN_lt bs (N := 4) (by decide) 3000); generalize schedN bs 4 3000 = all at *; obtain ⟨Al, cl, rfl, hcl, hcl2⟩ := ho.form; have HO := hid ho; clear ho; rw [show (nats all).length = all.length by simp] at *; unfold maxLen at hcl2; obtain ⟨N, hN⟩ : ∃ N, all.length = N := ⟨_, rfl⟩; rw [hN] at HO hl4 hcl ⊢; have HN := hid hN; clear hN; have BS := hid (bgo (bnil wA).drew HO.out.below); obtain ⟨z0, z1, z2⟩ := cells3 BS.out y0 y1 y2
  go_wp2_with fail
  refine hK.out _ _ ?_ (fun hHeld => ?_)
  · (try dsimp only); (first | assumption | exact ⟨y0, y1, y2⟩ | exact ⟨z0, z1, z2⟩ | exact ⟨u0, u1, u2⟩)
  clear hK K
  try simp only [Act.put, List.setIfInBounds_toArray, List.set_cons_zero, List.set_cons_succ]
  refine wpAnyH_ready (rs := [3]) (by kernel_rfl) (by simp) ?_
  refine AllReadyH.cons (o := ⟨some 31, _, _, _, _, _⟩) rfl (fun K hK => ?_) AllReadyH.nil
  go_simp
  have HWS := hid (show Sl w2 1 AW 1 (ints [(R : Int)]) from Sl.own (own_below HWA.out BS.out)); have HNE := hid (sema_play (often := 6) hR4 hwk1 all).2; have HMB := hid (HMA.out.below BS.out); refine (ran_of AW (some ⟨Cb, 0, none⟩) (some ⟨T, 0, none⟩) Al 1 cW 3 3 4 4 N cl (rmach [(R : Int)] enterCode leaveCode 6 wk) all w2 (by decide) (by decide) (by decide) (by omega) hcl (HT.out.below (bgo BA.out BS.out)) HMB.out HWS.out HO.out.sl HLT.out HNE.out (play_fin _ all)).mono ?_; rintro e w3 hp3; obtain ⟨v3, rs, rfl, hrow, hrs, htold, b3⟩ := hp3; obtain ⟨A3, c3, rfl, hc3, hc3'⟩ := own_form hrow; obtain ⟨LD, hLD⟩ : ∃ LD, rs.length = LD := ⟨_, rfl⟩; rw [hLD] at hrow hc3 ⊢; have HD := hid (DsAt.mk hLD hrow htold); have HRS := hid hrs; have B3 := hid (bgo BS.out b3); clear hrow htold hrs b3 hLD; obtain ⟨u0, u1, u2⟩ := cells3 B3.out y0 y1 y2
  go_wp2_with fail
  refine hK.out _ _ ?_ (fun hHeld => ?_)
  · (try dsimp only); (first | assumption | exact ⟨y0, y1, y2⟩ | exact ⟨z0, z1, z2⟩ | exact ⟨u0, u1, u2⟩)
  clear hK K
  try simp only [Act.put, List.setIfInBounds_toArray, List.set_cons_zero, List.set_cons_succ]
  refine wpAnyH_take (i := 4) (oi := ⟨some 27, _, _, _, _, _⟩) (v := ?_) rfl (by kernel_rfl) (by kernel_rfl) (by kernel_rfl) (fun _ _ _ h => h) (Or.inl ⟨by rfl, ?_⟩) (by assumption) ?_
  rotate_left
  · intro w hSw; (try dsimp only at hSw); go_simp <;> with_reducible rfl
  try simp only [Act.put, List.setIfInBounds_toArray, List.set_cons_zero, List.set_cons_succ]
  refine wpAnyH_take (i := 5) (oi := ⟨some 32, _, _, _, _, _⟩) (v := ?_) rfl (by kernel_rfl) (by kernel_rfl) (by kernel_rfl) (fun _ _ _ h => h) (Or.inl ⟨by rfl, ?_⟩) (by assumption) ?_
  rotate_left
  · intro w hSw; (try dsimp only at hSw); go_simp <;> with_reducible rfl
  try simp only [Act.put, List.setIfInBounds_toArray, List.set_cons_zero, List.set_cons_succ]
  refine wpAnyH_take (i := 6) (oi := ⟨some 33, _, _, _, _, _⟩) (v := ?_) rfl (by kernel_rfl) (by kernel_rfl) (by kernel_rfl) (fun _ _ _ h => h) (Or.inl ⟨by rfl, ?_⟩) (by assumption) ?_
  rotate_left
  · intro w hSw; (try dsimp only at hSw); go_simp <;> with_reducible rfl
  try simp only [Act.put, List.setIfInBounds_toArray, List.set_cons_zero, List.set_cons_succ]
  refine wpAnyH_take (i := 7) (oi := ⟨some 10, _, _, _, _, _⟩) (v := ?_) rfl (by kernel_rfl) (by kernel_rfl) (by kernel_rfl) (fun _ _ _ h => h) (Or.inl ⟨by rfl, ?_⟩) (by assumption) ?_
  rotate_left
  · intro w hSw; (try dsimp only at hSw); go_simp <;> with_reducible rfl
  try simp only [Act.put, List.setIfInBounds_toArray, List.set_cons_zero, List.set_cons_succ]
  refine wpAnyH_take (i := 8) (oi := ⟨some 11, _, _, _, _, _⟩) (v := ?_) rfl (by kernel_rfl) (by kernel_rfl) (by kernel_rfl) (fun _ _ _ h => h) (Or.inl ⟨by rfl, ?_⟩) (by assumption) ?_
  rotate_left
  · intro w hSw; (try dsimp only at hSw); go_simp <;> with_reducible rfl
  try simp only [Act.put, List.setIfInBounds_toArray, List.set_cons_zero, List.set_cons_succ]
  refine wpAnyH_done (by kernel_rfl) ?_ _
  rotate_left
  have B03 := hid (bgo BA.out B3.out)
  clear hHeld
  clear z0 z1 z2 u0 u1 u2 y0 y1 y2 HX0 HMA HWA BA HO HWS HMB BS
  have HMOST := hid (fun T hT => sema_most (room := R) (often := 6) (work := wk) hR4 hwk1 all T hT)
  have HTIME := hid (play_di (rmach [(R : Int)] enterCode leaveCode 6 wk) all).time
  have HC := hid (fun (k : Nat) (d : Dg) hk => play_c (m := rmach [(R : Int)] enterCode leaveCode 6 wk) (N := 18) rmach_len all (k := k) (d := d) hk)
  rw [← HRS.out] at HMOST HTIME HC
  generalize rmach [(R : Int)] enterCode leaveCode 6 wk = mm at *
  clear HRS HNE
  unfold maxLen at hc3'
  go_wp2_with fail
  go_loopw [12] (fun i wr => ∃ k : Nat, k ≤ LD ∧ i = .int .i64 k ∧ Hid (Below w3.heap.size w3 wr)) (fun i _ => LD - (intOf i).toNat)
  case atStart => exact ⟨0, Nat.zero_le _, rfl, hid (bnil _)⟩
  case round =>
    obtain ⟨k, hk, rfl, BR⟩ := hrel
    by_cases hlt : k < LD
    · have j1 : (k : Int) < (LD : Int) := by omega
      obtain ⟨b9, d, At, ct, rfl, hd, lt9, u0, u1, u2, u3, u4, ut⟩ := (HD.out.below BR.out).at_ hlt
      have HDk := hid hd
      obtain ⟨hc18, _⟩ := HC.out k d hd
      obtain ⟨r, hr⟩ : ∃ r, d.c % 3 = r := ⟨_, rfl⟩
      have HRr := hid hr
      have em : (d.c : Int).tmod 3 = (r : Int) := by rw [Int.tmod_eq_emod_of_nonneg (by omega), ← hr]; omega
      clear hd ut hr
      by_cases hr0 : r = 0
      · cases he : d.e with
        | none =>
          subst hr0
          have e1 : eI d.e = -1 := by rw [he]; rfl
          rw [e1] at u1
          clear e1 he
          go_wp2_with fail
          go_roundw
          case rel => exact ⟨k + 1, by omega, by go_num, BR⟩
          case measure => simp [intOf]; omega
        | some e =>
          subst hr0
          have e1 : eI d.e = (e : Int) := by rw [he]; rfl
          rw [e1] at u1
          have hel := ((HTIME.out k d HDk.out).2 e he).2
          have hmost := HMOST.out (e + 1) hel
          have HMO := hid hmost
          rw [HN.out] at hel
          have en : ¬ ((e : Int) = -1) := by omega
          clear e1 he hmost
          go_wp2_with fail
          have enb : ((e : Int) == -1) = false := beqF (by omega)
          rw [enb]
          clear enb
          go_loopw [14, 15] (fun o i wz => ∃ (j q : Nat), j ≤ LD ∧ q ≤ j ∧ i = .int .i64 j ∧ o = .int .i64 q ∧ Hid (q = (((rs.map (·.1)).take j).filter (isin (rs.map (·.1)) (e + 1))).length) ∧ Hid (Below w3.heap.size w3 wz)) (fun _ i _ => LD - (intOf i).toNat)
          case atStart => exact ⟨0, 0, Nat.zero_le _, Nat.le_refl _, rfl, rfl, hid rfl, BR⟩
          case round =>
            clear u0 u1 u2 u3 u4 BR lt9
            obtain ⟨j, q, hj, hqj, rfl, rfl, HQ, BZ⟩ := hrel
            by_cases hlt2 : j < LD
            · have j2 : (j : Int) < (LD : Int) := by omega
              obtain ⟨b10, d2, At2, ct2, hb10, hd2, lt10, z0, z1, z2, z3, z4, zt⟩ := (HD.out.below BZ.out).at_ hlt2
              injection hb10 with hb10; injection hb10 with hb10 _ _
              subst hb10
              have HD2 := hid hd2
              obtain ⟨hc18b, _⟩ := HC.out j d2 hd2
              have hft := filter_take (P := isin (rs.map (·.1)) (e + 1)) hd2
              rw [← HQ.out] at hft
              have HFT := hid hft
              obtain ⟨r2, hr2⟩ : ∃ r2, d2.c % 3 = r2 := ⟨_, rfl⟩
              have HR2 := hid hr2
              have em2 : (d2.c : Int).tmod 3 = (r2 : Int) := by rw [Int.tmod_eq_emod_of_nonneg (by omega), ← hr2]; omega
              clear hd2 zt hr2 hft
              have hno : isin (rs.map (·.1)) (e + 1) d2 = false → Hid (q = (((rs.map (·.1)).take (j + 1)).filter (isin (rs.map (·.1)) (e + 1))).length) := fun h => hid (by rw [HFT.out, h]; rfl)
              have hyes : isin (rs.map (·.1)) (e + 1) d2 = true → Hid (q + 1 = (((rs.map (·.1)).take (j + 1)).filter (isin (rs.map (·.1)) (e + 1))).length) := fun h => hid (by rw [HFT.out, h]; rfl)
              have HNO := hid hno; have HYES := hid hyes
              clear hno hyes HFT
              by_cases hr20 : r2 = 0
              · subst hr20
                cases he2 : d2.e with
                | none =>
                  have HN1 := HNO.out (Bool.eq_false_iff.2 fun h => by obtain ⟨e3, h1, _⟩ := (isin_iff.1 h).2.1; rw [he2] at h1; cases h1)
                  have e1 : eI d2.e = -1 := by rw [he2]; rfl
                  rw [e1] at z1
                  clear e1 he2
                  go_wp2_with fail
                  go_roundw
                  case rel => first | exact ⟨j + 1, q, by omega, by omega, by go_num, by go_num, HN1, BZ⟩ | exact ⟨j + 1, by omega, q, by omega, by go_num, by go_num, HN1⟩ | exact ⟨j + 1, by omega, by omega, by go_num, HN1, BZ⟩ | exact ⟨j + 1, by omega, by omega, by go_num, HN1⟩
                  case measure => simp [intOf]; omega
                | some e2 =>
                  have HE2 := hid he2
                  have e1 : eI d2.e = (e2 : Int) := by rw [he2]; rfl
                  rw [e1] at z1
                  have en2 : ¬ ((e2 : Int) = -1) := by omega
                  have hel2 := ((HTIME.out j d2 HD2.out).2 e2 he2).2
                  rw [HN.out] at hel2
                  clear e1 he2
                  by_cases hlt3 : e2 < e + 1
                  · have i3 : (e2 : Int) < (e : Int) + 1 := by omega
                    go_wp2_with fail
                    have HL := leaves_of w2.heap.size (some ⟨b9, 0, none⟩) LD c3 rs d2 (.slice At2 d2.told.length ct2) wr (by omega) (by omega) (HD.out.below BZ.out)
                    rw [show eI d2.e = (e2 : Int) by rw [HE2.out]; rfl] at HL
                    refine HL.mono ?_
                    clear HL
                    rintro e4 w5 ⟨rfl, b5⟩
                    have BZ := hid (bgo BZ.out b5)
                    clear b5 z0 z1 z2 z3 z4 lt10
                    obtain ⟨L, hL⟩ : ∃ L, leavesOf (rs.map (·.1)) d2 = L := ⟨_, rfl⟩
                    have HLL := hid hL
                    rw [hL]
                    clear hL
                    by_cases hL4 : e + 1 < L
                    · have i4 : (e : Int) + 1 < (L : Int) := by omega
                      have HN1 := HYES.out (isin_iff.2 ⟨HR2.out, ⟨e2, HE2.out, hlt3⟩, by rw [HLL.out]; exact hL4⟩)
                      clear HLL HNO HYES
                      go_wp2_with fail
                      go_roundw
                      case rel => first | exact ⟨j + 1, q + 1, by omega, by omega, by go_num, by go_num, HN1, BZ⟩ | exact ⟨j + 1, by omega, q + 1, by omega, by go_num, by go_num, HN1⟩ | exact ⟨j + 1, by omega, by omega, by go_num, HN1, BZ⟩ | exact ⟨j + 1, by omega, by omega, by go_num, HN1⟩
                      case measure => simp [intOf]; omega
                    · have i4 : ¬ ((e : Int) + 1 < (L : Int)) := by omega
                      have HN1 := HNO.out (Bool.eq_false_iff.2 fun h => by have h1 := (isin_iff.1 h).2.2; rw [HLL.out] at h1; exact hL4 h1)
                      clear HLL HNO HYES
                      go_wp2_with fail
                      go_roundw
                      case rel => first | exact ⟨j + 1, q, by omega, by omega, by go_num, by go_num, HN1, BZ⟩ | exact ⟨j + 1, by omega, q, by omega, by go_num, by go_num, HN1⟩ | exact ⟨j + 1, by omega, by omega, by go_num, HN1, BZ⟩ | exact ⟨j + 1, by omega, by omega, by go_num, HN1⟩
                      case measure => simp [intOf]; omega
                  · have i3 : ¬ (e2 : Int) < (e : Int) + 1 := by omega
                    have HN1 := HNO.out (Bool.eq_false_iff.2 fun h => by obtain ⟨e3, h1, h2⟩ := (isin_iff.1 h).2.1; rw [HE2.out] at h1; injection h1 with h1; omega)
                    go_wp2_with fail
                    go_roundw
                    case rel => first | exact ⟨j + 1, q, by omega, by omega, by go_num, by go_num, HN1, BZ⟩ | exact ⟨j + 1, by omega, q, by omega, by go_num, by go_num, HN1⟩ | exact ⟨j + 1, by omega, by omega, by go_num, HN1, BZ⟩ | exact ⟨j + 1, by omega, by omega, by go_num, HN1⟩
                    case measure => simp [intOf]; omega
              · have e1 : ¬ ((r2 : Int) = 0) := by omega
                have HN1 := HNO.out (Bool.eq_false_iff.2 fun h => hr20 (by rw [← HR2.out]; exact (isin_iff.1 h).1))
                go_wp2_with fail
                go_roundw
                case rel => first | exact ⟨j + 1, q, by omega, by omega, by go_num, by go_num, HN1, BZ⟩ | exact ⟨j + 1, by omega, q, by omega, by go_num, by go_num, HN1⟩ | exact ⟨j + 1, by omega, by omega, by go_num, HN1, BZ⟩ | exact ⟨j + 1, by omega, by omega, by go_num, HN1⟩
                case measure => simp [intOf]; omega
            · obtain rfl : j = LD := by omega
              have j2 : ¬ (j : Int) < (j : Int) := by omega
              have hqR : q ≤ R := by
                have h1 := HMO.out
                rw [HQ.out, List.take_of_length_le (by rw [List.length_map, HD.out.len]; exact Nat.le_refl _)]
                exact h1
              have i5 : ¬ ((R : Int) < (q : Int)) := by omega
              go_wp2_with fail
              go_roundw
              case rel => exact ⟨k + 1, by omega, by go_num, BZ⟩
              case measure => simp [intOf]; omega
      · have e1 : ¬ ((r : Int) = 0) := by omega
        go_wp2_with fail
        go_roundw
        case rel => exact ⟨k + 1, by omega, by go_num, BR⟩
        case measure => simp [intOf]; omega
    · obtain rfl : k = LD := by omega
      have j1 : ¬ (k : Int) < (k : Int) := by omega
      go_wp2_with fail
      go_ret
      exact ⟨rfl, bgo B03.out BR.out⟩
end Go.Proofs.YtnoinojhocicjaaDoor
