/-
  LockOne: its walk. Written by gen_lockone.py.
-/
import Derived.Test.YtiinnkdhccgelaaDoorLockMach
import Derived.Test.YtiinnkdhccgelaaDoorLockLaw
import Derived.Test.YtiinnkdhccgelaaDoorSched
import Derived.Test.YtiinnkdhccgelaaDoorDsAt
import Derived.Test.YtiinnkdhccgelaaDoorLeaves
import Derived.Deep.RegionHeld
namespace Go.Proofs.YtiinnkdhccgelaaDoor
open Go.RowKit
set_option linter.unusedVariables false

theorem cells3 {w w' : World} {p q r : Addr} {a b c : Value} (h : Below w.heap.size w w') (hp : w.cell? p = some a) (hq : w.cell? q = some b) (hr : w.cell? r = some c) : w'.cell? p = some a ∧ w'.cell? q = some b ∧ w'.cell? r = some c := ⟨cell_below h hp, cell_below h hq, cell_below h hr⟩
set_option maxHeartbeats 8000000 in
set_option maxRecDepth 100000 in
theorem law_lockOne (xi xw : Int) (S : Option Addr) (p q : Nat) (bs : List UInt8) (w : World) (ha : -9223372036854775808 ≤ xi) (ha1 : xi ≤ 9223372036854775807) (hb : -9223372036854775808 ≤ xw) (hb1 : xw ≤ 9223372036854775807) (hp : p ≤ q) (hq : q ≤ maxLen) (_ : q * 1 ≤ 140737488351232) (hS : Sl w 1 S p (byts bs)) (hT : STab w) :
    Calls Tryd.prog 14 #[.int .i64 xi, .int .i64 xw, .slice S p q] w fun e w' => e = .returned (.bool true) ∧ Below w.heap.size w w' := by
  have HS := hid hS; have HT := hid hT
  clear hS hT
  have hpl : p ≤ 9223372036854775807 := by unfold maxLen at hq; omega
  clear hq
  have m1 := pk_lt xi 4 (by decide)
  have k1 := pk_lt xw 40 (by decide)
  obtain ⟨n, hR⟩ : ∃ n : Nat, wrap64 (1 + (pk xi 4 : Int)) = (n : Int) ∧ n = 1 + pk xi 4 := ⟨1 + pk xi 4, by rw [wrap_mid (by omega) (by omega)]; omega, rfl⟩
  obtain ⟨wk, hwk⟩ : ∃ wk : Nat, wrap64 (1 + (pk xw 40 : Int)) = (wk : Int) ∧ wk = 1 + pk xw 40 := ⟨1 + pk xw 40, by rw [wrap_mid (by omega) (by omega)]; omega, rfl⟩
  have h1 : 1 ≤ n := by omega
  have h4 : n ≤ 4 := by omega
  have hwk1 : 0 < wk := by omega
  have hwk40 : wk ≤ 40 := by omega
  have HR := hid hR.1; have HWK := hid hwk.1
  clear hR hwk m1 k1
  have HLM := hid (lmach_lm (n := n) (work := wk) (f := fun _ => 6) h1 h4 hwk1)
  go_enter Tryd.func14, Tryd.ntmps14
  go_wp2_with fail
  refine (picked xi 4 w (by decide) ha ha1 (by decide)).mono ?_
  rintro e w' ⟨rfl, rfl⟩
  go_wp2_with fail
  have HSL := hid (show Sl (w.alloc (.cells #[.int .i64 6, .int .i64 6, .int .i64 6, .int .i64 6] 3)) 1 (some ⟨w.heap.size, 0, none⟩) 4 (ints ((List.range 4).map fun t => ((6 : Nat) : Int))) from Sl.fresh w #[.int .i64 6, .int .i64 6, .int .i64 6, .int .i64 6] 3 1 4 rfl)
  have BO := hid (bnew (bnil w) (.cells #[.int .i64 6, .int .i64 6, .int .i64 6, .int .i64 6] 3))
  obtain ⟨bo, hbo⟩ : ∃ bo, w.heap.size = bo := ⟨_, rfl⟩
  rw [hbo] at HSL
  have HBO := hid hbo
  clear hbo
  generalize World.alloc w (.cells #[.int .i64 6, .int .i64 6, .int .i64 6, .int .i64 6] 3) = w1 at *
  refine (picked xw 40 w1 (by decide) hb hb1 (by decide)).mono ?_
  rintro e w' ⟨rfl, rfl⟩
  go_wp2_with fail
  rw [HBO.out]
  rw [HR.out, HWK.out]
  refine (lock_machine n (some ⟨bo, 0, none⟩) 4 wk (fun _ => 6) w1 h1 h4 hwk40 (fun t _ => by decide) HSL.out (HT.out.below BO.out)).mono ?_
  rintro e w2 hp2
  obtain ⟨AW, cW, Cb, T, cv1, tv, av, rfl, hW2, hM, b2⟩ := hp2
  have HM := hid hM; have B2 := hid (bgo BO.out b2); have HW := hid hW2
  clear hM b2 hW2 HSL BO
  obtain ⟨X, hX⟩ : ∃ X, w2.heap.size = X := ⟨_, rfl⟩
  go_upto_region 3 with fail
  have HX0 := hid (blkN w2 34 #[.slice AW (2 * n) cW, .slice (some ⟨Cb, 0, none⟩) 3 3, .slice (some ⟨T, 0, none⟩) n n] X hX)
  have BA := hid (bgo B2.out (bnew (bnil w2) (.cells #[.slice AW (2 * n) cW, .slice (some ⟨Cb, 0, none⟩) 3 3, .slice (some ⟨T, 0, none⟩) n n] 34)))
  have HMN := hid (HM.out.below (bnew (bnil w2) (.cells #[.slice AW (2 * n) cW, .slice (some ⟨Cb, 0, none⟩) 3 3, .slice (some ⟨T, 0, none⟩) n n] 34)))
  have HMA := hid (lmach_at HMN.out h1 h4 (by omega) (fun t _ => by decide))
  have HWA := hid (own_below HW.out (bnew (bnil w2) (.cells #[.slice AW (2 * n) cW, .slice (some ⟨Cb, 0, none⟩) 3 3, .slice (some ⟨T, 0, none⟩) n n] 34)))
  generalize World.alloc w2 _ = wA at *
  clear hX HM HW HMN
  have y0 : wA.cell? ⟨X, 0, none⟩ = some (.slice AW (2 * n) cW) := HX0.out.cell 0
  have y1 : wA.cell? ⟨X, 1, none⟩ = some (.slice (some ⟨Cb, 0, none⟩) 3 3) := HX0.out.cell 1
  have y2 : wA.cell? ⟨X, 2, none⟩ = some (.slice (some ⟨T, 0, none⟩) n n) := HX0.out.cell 2
  refine wp_region_held_drew (S := (fun w' => w'.cell? ⟨X, 0, none⟩ = some (.slice AW (2 * n) cW) ∧ w'.cell? ⟨X, 1, none⟩ = some (.slice (some ⟨Cb, 0, none⟩) 3 3) ∧ w'.cell? ⟨X, 2, none⟩ = some (.slice (some ⟨T, 0, none⟩) n n))) (by kernel_rfl) ?_ (fun hHeld => ?_)
  · (try dsimp only); (first | assumption | exact ⟨y0, y1, y2⟩ | exact ⟨z0, z1, z2⟩ | exact ⟨u0, u1, u2⟩)
  refine wpAnyH_take (i := 0) (oi := ⟨some 28, _, _, _, _, _⟩) (v := ?_) rfl (by kernel_rfl) (by kernel_rfl) (by kernel_rfl) (fun _ _ _ h => h) (Or.inl ⟨by rfl, ?_⟩) (by assumption) ?_
  rotate_left
  · intro w hSw; (try dsimp only at hSw); go_simp <;> with_reducible rfl
  try simp only [Act.put, List.setIfInBounds_toArray, List.set_cons_zero, List.set_cons_succ]
  refine wpAnyH_take (i := 1) (oi := ⟨some 29, _, _, _, _, _⟩) (v := ?_) rfl (by kernel_rfl) (by kernel_rfl) (by kernel_rfl) (fun _ _ _ h => h) (Or.inl ⟨by rfl, ?_⟩) (by assumption) ?_
  rotate_left
  · intro w hSw; (try dsimp only at hSw); go_simp <;> with_reducible rfl
  try simp only [Act.put, List.setIfInBounds_toArray, List.set_cons_zero, List.set_cons_succ]
  refine wpAnyH_take (i := 2) (oi := ⟨some 30, _, _, _, _, _⟩) (v := ?_) rfl (by kernel_rfl) (by kernel_rfl) (by kernel_rfl) (fun _ _ _ h => h) (Or.inl ⟨by rfl, ?_⟩) (by assumption) ?_
  rotate_left
  · intro w hSw; (try dsimp only at hSw); go_simp <;> with_reducible rfl
  try simp only [Act.put, List.setIfInBounds_toArray, List.set_cons_zero, List.set_cons_succ]
  refine wpAnyH_ready (rs := [3]) (by kernel_rfl) (by simp) ?_
  refine AllReadyH.cons (o := ⟨some 31, _, _, _, _, _⟩) rfl (fun K hK => ?_) AllReadyH.nil
  go_simp
  refine (schedule_n S p q n 3000 bs _ hpl (by omega) (by omega) (by decide) (HS.out.below (bgo BA.out (bnil wA).drew))).mono ?_; rintro e w2 ⟨v, rfl, ho⟩; have hl4 : (schedN bs n 3000).length ≤ 3000 := (by have := schedN_len bs n 3000; omega); have HLT := hid (schedN_lt bs (N := n) (by omega) 3000); generalize schedN bs n 3000 = all at *; obtain ⟨Al, cl, rfl, hcl, hcl2⟩ := ho.form; have HO := hid ho; clear ho; rw [show (nats all).length = all.length by simp] at *; unfold maxLen at hcl2; obtain ⟨N, hN⟩ : ∃ N, all.length = N := ⟨_, rfl⟩; rw [hN] at HO hl4 hcl ⊢; have HN := hid hN; clear hN; have BS := hid (bgo (bnil wA).drew HO.out.below); obtain ⟨z0, z1, z2⟩ := cells3 BS.out y0 y1 y2
  go_wp2_with fail
  refine hK.out _ _ ?_ (fun hHeld => ?_)
  · (try dsimp only); (first | assumption | exact ⟨y0, y1, y2⟩ | exact ⟨z0, z1, z2⟩ | exact ⟨u0, u1, u2⟩)
  clear hK K
  try simp only [Act.put, List.setIfInBounds_toArray, List.set_cons_zero, List.set_cons_succ]
  refine wpAnyH_ready (rs := [4]) (by kernel_rfl) (by simp) ?_
  refine AllReadyH.cons (o := ⟨some 32, _, _, _, _, _⟩) rfl (fun K hK => ?_) AllReadyH.nil
  go_simp
  have HWS := hid (show Sl w2 1 AW (2 * n) (ints (List.replicate (2 * n) (0 : Int))) from Sl.own (own_below HWA.out BS.out)); have HNE := hid (lock_play HLM.out (l := all) (by rw [HN.out]; omega)).2; have HMB := hid (HMA.out.below BS.out); refine (ran_of AW (some ⟨Cb, 0, none⟩) (some ⟨T, 0, none⟩) Al (2 * n) cW 3 3 n n N cl (lmach n (fun _ => 6) wk) all w2 (by omega) (by decide) (by omega) (by omega) hcl (HT.out.below (bgo BA.out BS.out)) HMB.out HWS.out HO.out.sl HLT.out HNE.out (play_fin _ all)).mono ?_; rintro e w3 hp3; obtain ⟨v3, rs, rfl, hrow, hrs, htold, b3⟩ := hp3; obtain ⟨A3, c3, rfl, hc3, hc3'⟩ := own_form hrow; obtain ⟨LD, hLD⟩ : ∃ LD, rs.length = LD := ⟨_, rfl⟩; rw [hLD] at hrow hc3 ⊢; have HD := hid (DsAt.mk hLD hrow htold); have HRS := hid hrs; have B3 := hid (bgo BS.out b3); clear hrow htold hrs b3 hLD; obtain ⟨u0, u1, u2⟩ := cells3 B3.out y0 y1 y2
  go_wp2_with fail
  refine hK.out _ _ ?_ (fun hHeld => ?_)
  · (try dsimp only); (first | assumption | exact ⟨y0, y1, y2⟩ | exact ⟨z0, z1, z2⟩ | exact ⟨u0, u1, u2⟩)
  clear hK K
  try simp only [Act.put, List.setIfInBounds_toArray, List.set_cons_zero, List.set_cons_succ]
  refine wpAnyH_take (i := 5) (oi := ⟨some 27, _, _, _, _, _⟩) (v := ?_) rfl (by kernel_rfl) (by kernel_rfl) (by kernel_rfl) (fun _ _ _ h => h) (Or.inl ⟨by rfl, ?_⟩) (by assumption) ?_
  rotate_left
  · intro w hSw; (try dsimp only at hSw); go_simp <;> with_reducible rfl
  try simp only [Act.put, List.setIfInBounds_toArray, List.set_cons_zero, List.set_cons_succ]
  refine wpAnyH_take (i := 6) (oi := ⟨some 33, _, _, _, _, _⟩) (v := ?_) rfl (by kernel_rfl) (by kernel_rfl) (by kernel_rfl) (fun _ _ _ h => h) (Or.inl ⟨by rfl, ?_⟩) (by assumption) ?_
  rotate_left
  · intro w hSw; (try dsimp only at hSw); go_simp <;> with_reducible rfl
  try simp only [Act.put, List.setIfInBounds_toArray, List.set_cons_zero, List.set_cons_succ]
  refine wpAnyH_take (i := 7) (oi := ⟨some 34, _, _, _, _, _⟩) (v := ?_) rfl (by kernel_rfl) (by kernel_rfl) (by kernel_rfl) (fun _ _ _ h => h) (Or.inl ⟨by rfl, ?_⟩) (by assumption) ?_
  rotate_left
  · intro w hSw; (try dsimp only at hSw); go_simp <;> with_reducible rfl
  try simp only [Act.put, List.setIfInBounds_toArray, List.set_cons_zero, List.set_cons_succ]
  refine wpAnyH_take (i := 8) (oi := ⟨some 10, _, _, _, _, _⟩) (v := ?_) rfl (by kernel_rfl) (by kernel_rfl) (by kernel_rfl) (fun _ _ _ h => h) (Or.inl ⟨by rfl, ?_⟩) (by assumption) ?_
  rotate_left
  · intro w hSw; (try dsimp only at hSw); go_simp <;> with_reducible rfl
  try simp only [Act.put, List.setIfInBounds_toArray, List.set_cons_zero, List.set_cons_succ]
  refine wpAnyH_take (i := 9) (oi := ⟨some 11, _, _, _, _, _⟩) (v := ?_) rfl (by kernel_rfl) (by kernel_rfl) (by kernel_rfl) (fun _ _ _ h => h) (Or.inl ⟨by rfl, ?_⟩) (by assumption) ?_
  rotate_left
  · intro w hSw; (try dsimp only at hSw); go_simp <;> with_reducible rfl
  try simp only [Act.put, List.setIfInBounds_toArray, List.set_cons_zero, List.set_cons_succ]
  refine wpAnyH_done (by kernel_rfl) ?_ _
  rotate_left
  have B03 := hid (bgo BA.out B3.out)
  clear hHeld
  clear z0 z1 z2 u0 u1 u2 y0 y1 y2 HX0 HMA HWA BA HO HWS HMB BS
  have HMOST := hid (fun T (hT : T ≤ all.length) (k k' : Nat) (d d' : Dg) => lock_apart HLM.out (l := all) (by rw [HN.out]; omega) hT (k := k) (k' := k') (d := d) (d' := d'))
  have HTIME := hid (play_di (lmach n (fun _ => 6) wk) all).time
  have HC := hid (fun (k : Nat) (d : Dg) hk => play_c (m := lmach n (fun _ => 6) wk) (N := 19) (fun calls h => by
    obtain ⟨t, ht, rfl⟩ := List.mem_map.1 h
    have ht := List.mem_range.1 ht
    have e : lths (fun _ => 6) wk n 0 t = lcalls wk t 6 := by unfold lths; rw [if_pos ht]
    rw [e]; have := lcalls_len wk t 6; omega) all (k := k) (d := d) hk)
  have hmt : (lmach n (fun _ => 6) wk).threads.length = n := by simp [lmach]
  rw [hmt] at HC
  rw [← HRS.out] at HMOST HTIME HC
  generalize lmach n (fun _ => 6) wk = mm at *
  clear HRS HNE HLM hmt
  unfold maxLen at hc3'
  go_wp2_with fail
  go_loopw [12] (fun i wr => ∃ k : Nat, k ≤ LD ∧ i = .int .i64 k ∧ Hid (Below w3.heap.size w3 wr)) (fun i _ => LD - (intOf i).toNat)
  case atStart => exact ⟨0, Nat.zero_le _, rfl, hid (bnil _)⟩
  case round =>
    obtain ⟨k, hk, rfl, BR⟩ := hrel
    by_cases hlt : k < LD
    · have j1 : (k : Int) < (LD : Int) := by omega
      obtain ⟨b9, d, At, ct, rfl, hd, lt9, u0, u1, u2, u3, u4, ut⟩ := (HD.out.below BR.out).at_ hlt
      have HDk := hid hd
      obtain ⟨hc18, htn⟩ := HC.out k d hd
      obtain ⟨r, hr⟩ : ∃ r, d.c % 3 = r := ⟨_, rfl⟩
      have HRr := hid hr
      have em : (d.c : Int).tmod 3 = (r : Int) := by rw [Int.tmod_eq_emod_of_nonneg (by omega), ← hr]; omega
      clear hd ut hr
      by_cases hr0 : r = 0
      · cases he : d.e with
        | none =>
          subst hr0
          have e1 : eI d.e = -1 := by rw [he]; rfl
          rw [e1] at u1
          clear e1 he
          go_wp2_with fail
          go_roundw
          case rel => exact ⟨k + 1, by omega, by go_num, BR⟩
          case measure => simp [intOf]; omega
        | some e =>
          subst hr0
          have HE := hid he
          have e1 : eI d.e = (e : Int) := by rw [he]; rfl
          rw [e1] at u1
          have hel := ((HTIME.out k d HDk.out).2 e he).2
          rw [HN.out] at hel
          have en : ¬ ((e : Int) = -1) := by omega
          clear e1 he
          go_wp2_with fail
          have enb : ((e : Int) == -1) = false := beqF (by omega)
          rw [enb]
          clear enb
          have HL := leaves_of w2.heap.size (some ⟨b9, 0, none⟩) LD c3 rs d (.slice At d.told.length ct) wr (by omega) (by omega) (HD.out.below BR.out)
          rw [show eI d.e = (e : Int) by rw [HE.out]; rfl] at HL
          refine HL.mono ?_
          clear HL
          rintro e4 w5 ⟨rfl, b5⟩
          have BR := hid (bgo BR.out b5)
          clear b5 u0 u1 u2 u3 u4 lt9
          obtain ⟨O, hO⟩ : ∃ O, leavesOf (rs.map (·.1)) d = O := ⟨_, rfl⟩
          have HO := hid hO
          rw [hO]
          clear hO
          go_wp2_with fail
          go_loopw [14] (fun i wz => ∃ j : Nat, j ≤ LD ∧ i = .int .i64 j ∧ Hid (Below w3.heap.size w3 wz)) (fun i _ => LD - (intOf i).toNat)
          case atStart => exact ⟨0, Nat.zero_le _, rfl, BR⟩
          case round =>
            obtain ⟨j, hj, rfl, BZ⟩ := hrel
            by_cases hlt2 : j < LD
            · have j2 : (j : Int) < (LD : Int) := by omega
              obtain ⟨b11, d1, At1, ct1, hb11, hd1, lt9, u0, u1, u2, u3, u4, ut⟩ := (HD.out.below BZ.out).at_ hlt
              injection hb11 with hb11; injection hb11 with hb11 _ _
              subst hb11
              obtain rfl : d1 = d := by have h := HDk.out; rw [hd1] at h; exact Option.some.inj h
              obtain ⟨b10, d2, At2, ct2, hb10, hd2, lt10, z0, z1, z2, z3, z4, zt⟩ := (HD.out.below BZ.out).at_ hlt2
              injection hb10 with hb10; injection hb10 with hb10 _ _
              subst hb10
              have HD2 := hid hd2
              obtain ⟨hc18b, htnb⟩ := HC.out j d2 hd2
              obtain ⟨r2, hr2⟩ : ∃ r2, d2.c % 3 = r2 := ⟨_, rfl⟩
              have HR2 := hid hr2
              have em2 : (d2.c : Int).tmod 3 = (r2 : Int) := by rw [Int.tmod_eq_emod_of_nonneg (by omega), ← hr2]; omega
              rw [show eI d1.e = (e : Int) by rw [HE.out]; rfl] at u1
              clear hd1 hd2 zt ut hr2
              by_cases htt : d2.t = d1.t
              · go_wp2_with fail
                have g1 : ((d2.t : Int) != (d1.t : Int)) = false := bneF (by omega)
                go_quiet (fail)
                go_wp2_with fail
                have BZ := hid (below_drewN BZ.out nq)
                go_roundw
                case rel => exact ⟨j + 1, by omega, by go_num, BZ⟩
                case measure => simp [intOf]; omega
              · have htti := hid htt
                by_cases hr20 : r2 = 0
                · subst hr20
                  cases he2 : d2.e with
                  | none =>
                    have e1 : eI d2.e = -1 := by rw [he2]; rfl
                    rw [e1] at z1
                    clear e1 he2
                    go_wp2_with fail
                    have g1 : ((d2.t : Int) != (d1.t : Int)) = true := bneT (by omega)
                    have g3 : decide ((e : Int) < -1) = false := decide_eq_false (by omega)
                    go_quiet (fail)
                    go_wp2_with fail
                    have BZ := hid (below_drewN BZ.out nq)
                    go_roundw
                    case rel => exact ⟨j + 1, by omega, by go_num, BZ⟩
                    case measure => simp [intOf]; omega
                  | some e2 =>
                    have HE2 := hid he2
                    have e1 : eI d2.e = (e2 : Int) := by rw [he2]; rfl
                    rw [e1] at z1
                    have hel2 := ((HTIME.out j d2 HD2.out).2 e2 he2).2
                    have HT2 := hid hel2
                    rw [HN.out] at hel2
                    clear e1 he2
                    by_cases hlt3 : e < e2
                    · have i3 : (e : Int) < (e2 : Int) := by omega
                      by_cases hO1 : e2 + 1 < O
                      · have i4 : (e2 : Int) + 1 < (O : Int) := by omega
                        go_wp2_with fail
                        have g1 : ((d2.t : Int) != (d1.t : Int)) = true := bneT (by omega)
                        have g3 : decide ((e : Int) < (e2 : Int)) = true := decide_eq_true (by omega)
                        have g4 : decide ((e2 : Int) + 1 < (O : Int)) = true := decide_eq_true (by omega)
                        have i6 : IntKind.i64.wrap ((e2 : Int) + 1) = (e2 : Int) + 1 := IntWalk.i64_in _ (by omega)
                        clear i3 i4
                        refine wp_region_held_drew (S := (fun w' => w'.cell? ⟨b9, k * 5 + 2, none⟩ = some (.int .i64 (d1.t : Int)) ∧ w'.cell? ⟨b9, k * 5 + 1, none⟩ = some (.int .i64 (e : Int)) ∧ w'.cell? ⟨b9, j * 5, none⟩ = some (.int .i64 (d2.b : Int)) ∧ w'.cell? ⟨b9, j * 5 + 1, none⟩ = some (.int .i64 (e2 : Int)) ∧ w'.cell? ⟨b9, j * 5 + 2, none⟩ = some (.int .i64 (d2.t : Int)) ∧ w'.cell? ⟨b9, j * 5 + 3, none⟩ = some (.int .i64 (d2.c : Int)) ∧ w'.cell? ⟨b9, j * 5 + 4, none⟩ = some (.slice At2 d2.told.length ct2))) (by kernel_rfl) ?_ (fun hHeld => ?_)
                        · (try dsimp only); (first | exact ⟨u2, u1, z0, z1, z2, z3, z4⟩ | exact ⟨cell_below b6 u2, cell_below b6 u1, cell_below b6 z0, cell_below b6 z1, cell_below b6 z2, cell_below b6 z3, cell_below b6 z4⟩)
                        refine wpAnyH_take (i := 0) (oi := ⟨some 74, _, _, _, _, _⟩) (v := ?_) rfl (by kernel_rfl) (by kernel_rfl) (by kernel_rfl) (fun _ _ _ h => h) (Or.inl ⟨by rfl, ?_⟩) (by assumption) ?_
                        rotate_left
                        · intro w hSw; (try dsimp only at hSw); go_simp <;> with_reducible rfl
                        try simp only [Act.put, List.setIfInBounds_toArray, List.set_cons_zero, List.set_cons_succ]
                        refine wpAnyH_take (i := 1) (oi := ⟨some 75, _, _, _, _, _⟩) (v := ?_) rfl (by kernel_rfl) (by kernel_rfl) (by kernel_rfl) (fun _ _ _ h => h) (Or.inl ⟨by rfl, ?_⟩) (by assumption) ?_
                        rotate_left
                        · intro w hSw; (try dsimp only at hSw); go_simp <;> with_reducible rfl
                        try simp only [Act.put, List.setIfInBounds_toArray, List.set_cons_zero, List.set_cons_succ]
                        refine wpAnyH_take (i := 2) (oi := ⟨some 76, _, _, _, _, _⟩) (v := ?_) rfl (by kernel_rfl) (by kernel_rfl) (by kernel_rfl) (fun _ _ _ h => h) (Or.inl ⟨by rfl, ?_⟩) (by assumption) ?_
                        rotate_left
                        · intro w hSw; (try dsimp only at hSw); go_simp <;> with_reducible rfl
                        try simp only [Act.put, List.setIfInBounds_toArray, List.set_cons_zero, List.set_cons_succ]
                        refine wpAnyH_take (i := 3) (oi := ⟨some 77, _, _, _, _, _⟩) (v := ?_) rfl (by kernel_rfl) (by kernel_rfl) (by kernel_rfl) (fun _ _ _ h => h) (Or.inl ⟨by rfl, ?_⟩) (by assumption) ?_
                        rotate_left
                        · intro w hSw; (try dsimp only at hSw); go_simp <;> with_reducible rfl
                        try simp only [Act.put, List.setIfInBounds_toArray, List.set_cons_zero, List.set_cons_succ]
                        refine wpAnyH_take (i := 4) (oi := ⟨some 78, _, _, _, _, _⟩) (v := ?_) rfl (by kernel_rfl) (by kernel_rfl) (by kernel_rfl) (fun _ _ _ h => h) (Or.inl ⟨by rfl, ?_⟩) (by assumption) ?_
                        rotate_left
                        · intro w hSw; (try dsimp only at hSw); go_simp <;> with_reducible rfl
                        try simp only [Act.put, List.setIfInBounds_toArray, List.set_cons_zero, List.set_cons_succ]
                        refine wpAnyH_take (i := 5) (oi := ⟨some 79, _, _, _, _, _⟩) (v := ?_) rfl (by kernel_rfl) (by kernel_rfl) (by kernel_rfl) (fun _ _ _ h => h) (Or.inl ⟨by rfl, ?_⟩) (by assumption) ?_
                        rotate_left
                        · intro w hSw; (try dsimp only at hSw); go_simp <;> with_reducible rfl
                        try simp only [Act.put, List.setIfInBounds_toArray, List.set_cons_zero, List.set_cons_succ]
                        refine wpAnyH_take (i := 6) (oi := ⟨some 80, _, _, _, _, _⟩) (v := ?_) rfl (by kernel_rfl) (by kernel_rfl) (by kernel_rfl) (fun _ _ _ h => h) (Or.inl ⟨by rfl, ?_⟩) (by assumption) ?_
                        rotate_left
                        · intro w hSw; (try dsimp only at hSw); go_simp <;> with_reducible rfl
                        try simp only [Act.put, List.setIfInBounds_toArray, List.set_cons_zero, List.set_cons_succ]
                        refine wpAnyH_take (i := 7) (oi := ⟨some 81, _, _, _, _, _⟩) (v := ?_) rfl (by kernel_rfl) (by kernel_rfl) (by kernel_rfl) (fun _ _ _ h => h) (Or.inl ⟨by rfl, ?_⟩) (by assumption) ?_
                        rotate_left
                        · intro w hSw; (try dsimp only at hSw); go_simp <;> with_reducible rfl
                        try simp only [Act.put, List.setIfInBounds_toArray, List.set_cons_zero, List.set_cons_succ]
                        refine wpAnyH_take (i := 8) (oi := ⟨some 82, _, _, _, _, _⟩) (v := ?_) rfl (by kernel_rfl) (by kernel_rfl) (by kernel_rfl) (fun _ _ _ h => h) (Or.inl ⟨by rfl, ?_⟩) (by assumption) ?_
                        rotate_left
                        · intro w hSw; (try dsimp only at hSw); go_simp <;> with_reducible rfl
                        try simp only [Act.put, List.setIfInBounds_toArray, List.set_cons_zero, List.set_cons_succ]
                        refine wpAnyH_take (i := 9) (oi := ⟨some 83, _, _, _, _, _⟩) (v := ?_) rfl (by kernel_rfl) (by kernel_rfl) (by kernel_rfl) (fun _ _ _ h => h) (Or.inl ⟨by rfl, ?_⟩) (by assumption) ?_
                        rotate_left
                        · intro w hSw; (try dsimp only at hSw); go_simp <;> with_reducible rfl
                        try simp only [Act.put, List.setIfInBounds_toArray, List.set_cons_zero, List.set_cons_succ]
                        refine wpAnyH_take (i := 10) (oi := ⟨some 84, _, _, _, _, _⟩) (v := .bool true) rfl (by kernel_rfl) (by kernel_rfl) (by kernel_rfl) (fun _ _ _ h => h) (Or.inl ⟨by rfl, ?_⟩) (by assumption) ?_
                        · intro w hSw; (try dsimp only at hSw); go_simp <;> (first | with_reducible rfl | rfl | rw [g1] | rw [g3] | rw [g4] | rw [g5] | (rw [i6]; omega))
                        try simp only [Act.put, List.setIfInBounds_toArray, List.set_cons_zero, List.set_cons_succ]
                        refine wpAnyH_take (i := 11) (oi := ⟨some 85, _, _, _, _, _⟩) (v := ?_) rfl (by kernel_rfl) (by kernel_rfl) (by kernel_rfl) (fun _ _ _ h => h) (Or.inl ⟨by rfl, ?_⟩) (by assumption) ?_
                        rotate_left
                        · intro w hSw; (try dsimp only at hSw); go_simp <;> with_reducible rfl
                        try simp only [Act.put, List.setIfInBounds_toArray, List.set_cons_zero, List.set_cons_succ]
                        refine wpAnyH_take (i := 12) (oi := ⟨some 86, _, _, _, _, _⟩) (v := ?_) rfl (by kernel_rfl) (by kernel_rfl) (by kernel_rfl) (fun _ _ _ h => h) (Or.inl ⟨by rfl, ?_⟩) (by assumption) ?_
                        rotate_left
                        · intro w hSw; (try dsimp only at hSw); go_simp <;> with_reducible rfl
                        try simp only [Act.put, List.setIfInBounds_toArray, List.set_cons_zero, List.set_cons_succ]
                        refine wpAnyH_take (i := 13) (oi := ⟨some 87, _, _, _, _, _⟩) (v := ?_) rfl (by kernel_rfl) (by kernel_rfl) (by kernel_rfl) (fun _ _ _ h => h) (Or.inl ⟨by rfl, ?_⟩) (by assumption) ?_
                        rotate_left
                        · intro w hSw; (try dsimp only at hSw); go_simp <;> with_reducible rfl
                        try simp only [Act.put, List.setIfInBounds_toArray, List.set_cons_zero, List.set_cons_succ]
                        refine wpAnyH_take (i := 14) (oi := ⟨some 88, _, _, _, _, _⟩) (v := ?_) rfl (by kernel_rfl) (by kernel_rfl) (by kernel_rfl) (fun _ _ _ h => h) (Or.inl ⟨by rfl, ?_⟩) (by assumption) ?_
                        rotate_left
                        · intro w hSw; (try dsimp only at hSw); go_simp <;> with_reducible rfl
                        try simp only [Act.put, List.setIfInBounds_toArray, List.set_cons_zero, List.set_cons_succ]
                        refine wpAnyH_take (i := 15) (oi := ⟨some 89, _, _, _, _, _⟩) (v := ?_) rfl (by kernel_rfl) (by kernel_rfl) (by kernel_rfl) (fun _ _ _ h => h) (Or.inl ⟨by rfl, ?_⟩) (by assumption) ?_
                        rotate_left
                        · intro w hSw; (try dsimp only at hSw); go_simp <;> with_reducible rfl
                        try simp only [Act.put, List.setIfInBounds_toArray, List.set_cons_zero, List.set_cons_succ]
                        refine wpAnyH_take (i := 16) (oi := ⟨some 90, _, _, _, _, _⟩) (v := ?_) rfl (by kernel_rfl) (by kernel_rfl) (by kernel_rfl) (fun _ _ _ h => h) (Or.inl ⟨by rfl, ?_⟩) (by assumption) ?_
                        rotate_left
                        · intro w hSw; (try dsimp only at hSw); go_simp <;> with_reducible rfl
                        try simp only [Act.put, List.setIfInBounds_toArray, List.set_cons_zero, List.set_cons_succ]
                        refine wpAnyH_take (i := 17) (oi := ⟨some 91, _, _, _, _, _⟩) (v := ?_) rfl (by kernel_rfl) (by kernel_rfl) (by kernel_rfl) (fun _ _ _ h => h) (Or.inl ⟨by rfl, ?_⟩) (by assumption) ?_
                        rotate_left
                        · intro w hSw; (try dsimp only at hSw); go_simp <;> with_reducible rfl
                        try simp only [Act.put, List.setIfInBounds_toArray, List.set_cons_zero, List.set_cons_succ]
                        refine wpAnyH_take (i := 18) (oi := ⟨some 92, _, _, _, _, _⟩) (v := .bool true) rfl (by kernel_rfl) (by kernel_rfl) (by kernel_rfl) (fun _ _ _ h => h) (Or.inl ⟨by rfl, ?_⟩) (by assumption) ?_
                        · intro w hSw; (try dsimp only at hSw); go_simp <;> (first | with_reducible rfl | rfl | rw [g1] | rw [g3] | rw [g4] | rw [g5] | (rw [i6]; omega))
                        try simp only [Act.put, List.setIfInBounds_toArray, List.set_cons_zero, List.set_cons_succ]
                        refine wpAnyH_take (i := 19) (oi := ⟨some 93, _, _, _, _, _⟩) (v := ?_) rfl (by kernel_rfl) (by kernel_rfl) (by kernel_rfl) (fun _ _ _ h => h) (Or.inl ⟨by rfl, ?_⟩) (by assumption) ?_
                        rotate_left
                        · intro w hSw; (try dsimp only at hSw); go_simp <;> with_reducible rfl
                        try simp only [Act.put, List.setIfInBounds_toArray, List.set_cons_zero, List.set_cons_succ]
                        refine wpAnyH_take (i := 20) (oi := ⟨some 94, _, _, _, _, _⟩) (v := ?_) rfl (by kernel_rfl) (by kernel_rfl) (by kernel_rfl) (fun _ _ _ h => h) (Or.inl ⟨by rfl, ?_⟩) (by assumption) ?_
                        rotate_left
                        · intro w hSw; (try dsimp only at hSw); go_simp <;> with_reducible rfl
                        try simp only [Act.put, List.setIfInBounds_toArray, List.set_cons_zero, List.set_cons_succ]
                        refine wpAnyH_take (i := 21) (oi := ⟨some 95, _, _, _, _, _⟩) (v := ?_) rfl (by kernel_rfl) (by kernel_rfl) (by kernel_rfl) (fun _ _ _ h => h) (Or.inl ⟨by rfl, ?_⟩) (by assumption) ?_
                        rotate_left
                        · intro w hSw; (try dsimp only at hSw); go_simp <;> with_reducible rfl
                        try simp only [Act.put, List.setIfInBounds_toArray, List.set_cons_zero, List.set_cons_succ]
                        refine wpAnyH_take (i := 22) (oi := ⟨some 96, _, _, _, _, _⟩) (v := ?_) rfl (by kernel_rfl) (by kernel_rfl) (by kernel_rfl) (fun _ _ _ h => h) (Or.inl ⟨by rfl, ?_⟩) (by assumption) ?_
                        rotate_left
                        · intro w hSw; (try dsimp only at hSw); go_simp <;> with_reducible rfl
                        try simp only [Act.put, List.setIfInBounds_toArray, List.set_cons_zero, List.set_cons_succ]
                        refine wpAnyH_take (i := 23) (oi := ⟨some 97, _, _, _, _, _⟩) (v := ?_) rfl (by kernel_rfl) (by kernel_rfl) (by kernel_rfl) (fun _ _ _ h => h) (Or.inl ⟨by rfl, ?_⟩) (by assumption) ?_
                        rotate_left
                        · intro w hSw; (try dsimp only at hSw); go_simp <;> with_reducible rfl
                        try simp only [Act.put, List.setIfInBounds_toArray, List.set_cons_zero, List.set_cons_succ]
                        refine wpAnyH_take (i := 24) (oi := ⟨some 98, _, _, _, _, _⟩) (v := ?_) rfl (by kernel_rfl) (by kernel_rfl) (by kernel_rfl) (fun _ _ _ h => h) (Or.inl ⟨by rfl, ?_⟩) (by assumption) ?_
                        rotate_left
                        · intro w hSw; (try dsimp only at hSw); go_simp <;> with_reducible rfl
                        try simp only [Act.put, List.setIfInBounds_toArray, List.set_cons_zero, List.set_cons_succ]
                        refine wpAnyH_take (i := 25) (oi := ⟨some 99, _, _, _, _, _⟩) (v := ?_) rfl (by kernel_rfl) (by kernel_rfl) (by kernel_rfl) (fun _ _ _ h => h) (Or.inl ⟨by rfl, ?_⟩) (by assumption) ?_
                        rotate_left
                        · intro w hSw; (try dsimp only at hSw); go_simp <;> with_reducible rfl
                        try simp only [Act.put, List.setIfInBounds_toArray, List.set_cons_zero, List.set_cons_succ]
                        refine wpAnyH_take (i := 26) (oi := ⟨some 100, _, _, _, _, _⟩) (v := ?_) rfl (by kernel_rfl) (by kernel_rfl) (by kernel_rfl) (fun _ _ _ h => h) (Or.inl ⟨by rfl, ?_⟩) (by assumption) ?_
                        rotate_left
                        · intro w hSw; (try dsimp only at hSw); go_simp <;> with_reducible rfl
                        try simp only [Act.put, List.setIfInBounds_toArray, List.set_cons_zero, List.set_cons_succ]
                        refine wpAnyH_take (i := 27) (oi := ⟨some 101, _, _, _, _, _⟩) (v := ?_) rfl (by kernel_rfl) (by kernel_rfl) (by kernel_rfl) (fun _ _ _ h => h) (Or.inl ⟨by rfl, ?_⟩) (by assumption) ?_
                        rotate_left
                        · intro w hSw; (try dsimp only at hSw); go_simp <;> with_reducible rfl
                        try simp only [Act.put, List.setIfInBounds_toArray, List.set_cons_zero, List.set_cons_succ]
                        refine wpAnyH_take (i := 28) (oi := ⟨some 102, _, _, _, _, _⟩) (v := ?_) rfl (by kernel_rfl) (by kernel_rfl) (by kernel_rfl) (fun _ _ _ h => h) (Or.inl ⟨by rfl, ?_⟩) (by assumption) ?_
                        rotate_left
                        · intro w hSw; (try dsimp only at hSw); go_simp <;> with_reducible rfl
                        try simp only [Act.put, List.setIfInBounds_toArray, List.set_cons_zero, List.set_cons_succ]
                        refine wpAnyH_take (i := 29) (oi := ⟨some 103, _, _, _, _, _⟩) (v := ?_) rfl (by kernel_rfl) (by kernel_rfl) (by kernel_rfl) (fun _ _ _ h => h) (Or.inl ⟨by rfl, ?_⟩) (by assumption) ?_
                        rotate_left
                        · intro w hSw; (try dsimp only at hSw); go_simp <;> with_reducible rfl
                        try simp only [Act.put, List.setIfInBounds_toArray, List.set_cons_zero, List.set_cons_succ]
                        refine wpAnyH_take (i := 30) (oi := ⟨some 104, _, _, _, _, _⟩) (v := ?_) rfl (by kernel_rfl) (by kernel_rfl) (by kernel_rfl) (fun _ _ _ h => h) (Or.inl ⟨by rfl, ?_⟩) (by assumption) ?_
                        rotate_left
                        · intro w hSw; (try dsimp only at hSw); go_simp <;> with_reducible rfl
                        try simp only [Act.put, List.setIfInBounds_toArray, List.set_cons_zero, List.set_cons_succ]
                        refine wpAnyH_take (i := 31) (oi := ⟨some 105, _, _, _, _, _⟩) (v := .bool true) rfl (by kernel_rfl) (by kernel_rfl) (by kernel_rfl) (fun _ _ _ h => h) (Or.inl ⟨by rfl, ?_⟩) (by assumption) ?_
                        · intro w hSw; (try dsimp only at hSw); go_simp <;> (first | with_reducible rfl | rfl | rw [g1] | rw [g3] | rw [g4] | rw [g5] | (rw [i6]; omega))
                        try simp only [Act.put, List.setIfInBounds_toArray, List.set_cons_zero, List.set_cons_succ]
                        refine wpAnyH_take (i := 32) (oi := ⟨some 106, _, _, _, _, _⟩) (v := ?_) rfl (by kernel_rfl) (by kernel_rfl) (by kernel_rfl) (fun _ _ _ h => h) (Or.inl ⟨by rfl, ?_⟩) (by assumption) ?_
                        rotate_left
                        · intro w hSw; (try dsimp only at hSw); go_simp <;> with_reducible rfl
                        try simp only [Act.put, List.setIfInBounds_toArray, List.set_cons_zero, List.set_cons_succ]
                        refine wpAnyH_take (i := 33) (oi := ⟨some 107, _, _, _, _, _⟩) (v := ?_) rfl (by kernel_rfl) (by kernel_rfl) (by kernel_rfl) (fun _ _ _ h => h) (Or.inl ⟨by rfl, ?_⟩) (by assumption) ?_
                        rotate_left
                        · intro w hSw; (try dsimp only at hSw); go_simp <;> with_reducible rfl
                        try simp only [Act.put, List.setIfInBounds_toArray, List.set_cons_zero, List.set_cons_succ]
                        refine wpAnyH_take (i := 34) (oi := ⟨some 108, _, _, _, _, _⟩) (v := ?_) rfl (by kernel_rfl) (by kernel_rfl) (by kernel_rfl) (fun _ _ _ h => h) (Or.inl ⟨by rfl, ?_⟩) (by assumption) ?_
                        rotate_left
                        · intro w hSw; (try dsimp only at hSw); go_simp <;> with_reducible rfl
                        try simp only [Act.put, List.setIfInBounds_toArray, List.set_cons_zero, List.set_cons_succ]
                        refine wpAnyH_take (i := 35) (oi := ⟨some 109, _, _, _, _, _⟩) (v := ?_) rfl (by kernel_rfl) (by kernel_rfl) (by kernel_rfl) (fun _ _ _ h => h) (Or.inl ⟨by rfl, ?_⟩) (by assumption) ?_
                        rotate_left
                        · intro w hSw; (try dsimp only at hSw); go_simp <;> with_reducible rfl
                        try simp only [Act.put, List.setIfInBounds_toArray, List.set_cons_zero, List.set_cons_succ]
                        refine wpAnyH_take (i := 36) (oi := ⟨some 110, _, _, _, _, _⟩) (v := ?_) rfl (by kernel_rfl) (by kernel_rfl) (by kernel_rfl) (fun _ _ _ h => h) (Or.inl ⟨by rfl, ?_⟩) (by assumption) ?_
                        rotate_left
                        · intro w hSw; (try dsimp only at hSw); go_simp <;> with_reducible rfl
                        try simp only [Act.put, List.setIfInBounds_toArray, List.set_cons_zero, List.set_cons_succ]
                        refine wpAnyH_take (i := 37) (oi := ⟨some 111, _, _, _, _, _⟩) (v := ?_) rfl (by kernel_rfl) (by kernel_rfl) (by kernel_rfl) (fun _ _ _ h => h) (Or.inl ⟨by rfl, ?_⟩) (by assumption) ?_
                        rotate_left
                        · intro w hSw; (try dsimp only at hSw); go_simp <;> with_reducible rfl
                        try simp only [Act.put, List.setIfInBounds_toArray, List.set_cons_zero, List.set_cons_succ]
                        refine wpAnyH_take (i := 38) (oi := ⟨some 112, _, _, _, _, _⟩) (v := ?_) rfl (by kernel_rfl) (by kernel_rfl) (by kernel_rfl) (fun _ _ _ h => h) (Or.inl ⟨by rfl, ?_⟩) (by assumption) ?_
                        rotate_left
                        · intro w hSw; (try dsimp only at hSw); go_simp <;> with_reducible rfl
                        try simp only [Act.put, List.setIfInBounds_toArray, List.set_cons_zero, List.set_cons_succ]
                        refine wpAnyH_take (i := 39) (oi := ⟨some 113, _, _, _, _, _⟩) (v := ?_) rfl (by kernel_rfl) (by kernel_rfl) (by kernel_rfl) (fun _ _ _ h => h) (Or.inl ⟨by rfl, ?_⟩) (by assumption) ?_
                        rotate_left
                        · intro w hSw; (try dsimp only at hSw); go_simp <;> with_reducible rfl
                        try simp only [Act.put, List.setIfInBounds_toArray, List.set_cons_zero, List.set_cons_succ]
                        refine wpAnyH_take (i := 40) (oi := ⟨some 114, _, _, _, _, _⟩) (v := ?_) rfl (by kernel_rfl) (by kernel_rfl) (by kernel_rfl) (fun _ _ _ h => h) (Or.inl ⟨by rfl, ?_⟩) (by assumption) ?_
                        rotate_left
                        · intro w hSw; (try dsimp only at hSw); go_simp <;> with_reducible rfl
                        try simp only [Act.put, List.setIfInBounds_toArray, List.set_cons_zero, List.set_cons_succ]
                        refine wpAnyH_take (i := 41) (oi := ⟨some 115, _, _, _, _, _⟩) (v := .bool true) rfl (by kernel_rfl) (by kernel_rfl) (by kernel_rfl) (fun _ _ _ h => h) (Or.inl ⟨by rfl, ?_⟩) (by assumption) ?_
                        · intro w hSw; (try dsimp only at hSw); go_simp <;> (first | with_reducible rfl | rfl | rw [g1] | rw [g3] | rw [g4] | rw [g5] | (rw [i6]; omega))
                        try simp only [Act.put, List.setIfInBounds_toArray, List.set_cons_zero, List.set_cons_succ]
                        refine wpAnyH_take (i := 42) (oi := ⟨some 116, _, _, _, _, _⟩) (v := ?_) rfl (by kernel_rfl) (by kernel_rfl) (by kernel_rfl) (fun _ _ _ h => h) (Or.inl ⟨by rfl, ?_⟩) (by assumption) ?_
                        rotate_left
                        · intro w hSw; (try dsimp only at hSw); go_simp <;> with_reducible rfl
                        try simp only [Act.put, List.setIfInBounds_toArray, List.set_cons_zero, List.set_cons_succ]
                        refine wpAnyH_take (i := 43) (oi := ⟨some 117, _, _, _, _, _⟩) (v := ?_) rfl (by kernel_rfl) (by kernel_rfl) (by kernel_rfl) (fun _ _ _ h => h) (Or.inl ⟨by rfl, ?_⟩) (by assumption) ?_
                        rotate_left
                        · intro w hSw; (try dsimp only at hSw); go_simp <;> with_reducible rfl
                        try simp only [Act.put, List.setIfInBounds_toArray, List.set_cons_zero, List.set_cons_succ]
                        refine wpAnyH_take (i := 44) (oi := ⟨some 118, _, _, _, _, _⟩) (v := ?_) rfl (by kernel_rfl) (by kernel_rfl) (by kernel_rfl) (fun _ _ _ h => h) (Or.inl ⟨by rfl, ?_⟩) (by assumption) ?_
                        rotate_left
                        · intro w hSw; (try dsimp only at hSw); go_simp <;> with_reducible rfl
                        try simp only [Act.put, List.setIfInBounds_toArray, List.set_cons_zero, List.set_cons_succ]
                        refine wpAnyH_take (i := 45) (oi := ⟨some 119, _, _, _, _, _⟩) (v := ?_) rfl (by kernel_rfl) (by kernel_rfl) (by kernel_rfl) (fun _ _ _ h => h) (Or.inl ⟨by rfl, ?_⟩) (by assumption) ?_
                        rotate_left
                        · intro w hSw; (try dsimp only at hSw); go_simp <;> with_reducible rfl
                        try simp only [Act.put, List.setIfInBounds_toArray, List.set_cons_zero, List.set_cons_succ]
                        refine wpAnyH_take (i := 46) (oi := ⟨some 120, _, _, _, _, _⟩) (v := ?_) rfl (by kernel_rfl) (by kernel_rfl) (by kernel_rfl) (fun _ _ _ h => h) (Or.inl ⟨by rfl, ?_⟩) (by assumption) ?_
                        rotate_left
                        · intro w hSw; (try dsimp only at hSw); go_simp <;> with_reducible rfl
                        try simp only [Act.put, List.setIfInBounds_toArray, List.set_cons_zero, List.set_cons_succ]
                        refine wpAnyH_take (i := 47) (oi := ⟨some 121, _, _, _, _, _⟩) (v := ?_) rfl (by kernel_rfl) (by kernel_rfl) (by kernel_rfl) (fun _ _ _ h => h) (Or.inl ⟨by rfl, ?_⟩) (by assumption) ?_
                        rotate_left
                        · intro w hSw; (try dsimp only at hSw); go_simp <;> with_reducible rfl
                        try simp only [Act.put, List.setIfInBounds_toArray, List.set_cons_zero, List.set_cons_succ]
                        refine wpAnyH_take (i := 48) (oi := ⟨some 122, _, _, _, _, _⟩) (v := ?_) rfl (by kernel_rfl) (by kernel_rfl) (by kernel_rfl) (fun _ _ _ h => h) (Or.inl ⟨by rfl, ?_⟩) (by assumption) ?_
                        rotate_left
                        · intro w hSw; (try dsimp only at hSw); go_simp <;> with_reducible rfl
                        try simp only [Act.put, List.setIfInBounds_toArray, List.set_cons_zero, List.set_cons_succ]
                        refine wpAnyH_take (i := 49) (oi := ⟨some 123, _, _, _, _, _⟩) (v := ?_) rfl (by kernel_rfl) (by kernel_rfl) (by kernel_rfl) (fun _ _ _ h => h) (Or.inl ⟨by rfl, ?_⟩) (by assumption) ?_
                        rotate_left
                        · intro w hSw; (try dsimp only at hSw); go_simp <;> with_reducible rfl
                        try simp only [Act.put, List.setIfInBounds_toArray, List.set_cons_zero, List.set_cons_succ]
                        refine wpAnyH_take (i := 50) (oi := ⟨some 124, _, _, _, _, _⟩) (v := ?_) rfl (by kernel_rfl) (by kernel_rfl) (by kernel_rfl) (fun _ _ _ h => h) (Or.inl ⟨by rfl, ?_⟩) (by assumption) ?_
                        rotate_left
                        · intro w hSw; (try dsimp only at hSw); go_simp <;> with_reducible rfl
                        try simp only [Act.put, List.setIfInBounds_toArray, List.set_cons_zero, List.set_cons_succ]
                        refine wpAnyH_take (i := 51) (oi := ⟨some 125, _, _, _, _, _⟩) (v := ?_) rfl (by kernel_rfl) (by kernel_rfl) (by kernel_rfl) (fun _ _ _ h => h) (Or.inl ⟨by rfl, ?_⟩) (by assumption) ?_
                        rotate_left
                        · intro w hSw; (try dsimp only at hSw); go_simp <;> with_reducible rfl
                        try simp only [Act.put, List.setIfInBounds_toArray, List.set_cons_zero, List.set_cons_succ]
                        refine wpAnyH_take (i := 52) (oi := ⟨some 126, _, _, _, _, _⟩) (v := ?_) rfl (by kernel_rfl) (by kernel_rfl) (by kernel_rfl) (fun _ _ _ h => h) (Or.inl ⟨by rfl, ?_⟩) (by assumption) ?_
                        rotate_left
                        · intro w hSw; (try dsimp only at hSw); go_simp <;> with_reducible rfl
                        try simp only [Act.put, List.setIfInBounds_toArray, List.set_cons_zero, List.set_cons_succ]
                        refine wpAnyH_take (i := 53) (oi := ⟨some 127, _, _, _, _, _⟩) (v := ?_) rfl (by kernel_rfl) (by kernel_rfl) (by kernel_rfl) (fun _ _ _ h => h) (Or.inl ⟨by rfl, ?_⟩) (by assumption) ?_
                        rotate_left
                        · intro w hSw; (try dsimp only at hSw); go_simp <;> with_reducible rfl
                        try simp only [Act.put, List.setIfInBounds_toArray, List.set_cons_zero, List.set_cons_succ]
                        refine wpAnyH_take (i := 54) (oi := ⟨some 128, _, _, _, _, _⟩) (v := ?_) rfl (by kernel_rfl) (by kernel_rfl) (by kernel_rfl) (fun _ _ _ h => h) (Or.inl ⟨by rfl, ?_⟩) (by assumption) ?_
                        rotate_left
                        · intro w hSw; (try dsimp only at hSw); go_simp <;> with_reducible rfl
                        try simp only [Act.put, List.setIfInBounds_toArray, List.set_cons_zero, List.set_cons_succ]
                        refine wpAnyH_ready (rs := [55]) (by kernel_rfl) (by simp) ?_
                        refine AllReadyH.cons (o := ⟨some 129, _, _, _, _, _⟩) rfl (fun K hK => ?_) AllReadyH.nil
                        go_simp
                        have HL := leaves_of w2.heap.size (some ⟨b9, 0, none⟩) LD c3 rs d2 (.slice At2 d2.told.length ct2) wr.drew (by omega) (by omega) (HD.out.below (bgo BZ.out (bnil wr).drew)); rw [show eI d2.e = (e2 : Int) by rw [HE2.out]; rfl] at HL; refine HL.mono ?_; clear HL; rintro e4 w6 ⟨rfl, b6⟩; have hL4 : ¬ e2 + 1 < leavesOf (rs.map (·.1)) d2 := (fun h => HMOST.out (e2 + 1) HT2.out k j d1 d2 HDk.out HD2.out (fun h => htti.out h.symm) (isin_iff.2 ⟨HRr.out, ⟨e, HE.out, by omega⟩, by rw [HO.out]; exact hO1⟩) (isin_iff.2 ⟨HR2.out, ⟨e2, HE2.out, by omega⟩, h⟩)); obtain ⟨L, hL⟩ : ∃ L, leavesOf (rs.map (·.1)) d2 = L := ⟨_, rfl⟩; rw [hL] at hL4 ⊢; clear hL; have g5 : decide ((e2 : Int) + 1 < (L : Int)) = false := decide_eq_false (by omega); have B6 := hid (bgo (bnil wr).drew b6)
                        go_wp2_with fail
                        refine hK.out _ _ ?_ (fun hHeld => ?_)
                        · (try dsimp only); (first | exact ⟨u2, u1, z0, z1, z2, z3, z4⟩ | exact ⟨cell_below b6 u2, cell_below b6 u1, cell_below b6 z0, cell_below b6 z1, cell_below b6 z2, cell_below b6 z3, cell_below b6 z4⟩)
                        clear hK K
                        try simp only [Act.put, List.setIfInBounds_toArray, List.set_cons_zero, List.set_cons_succ]
                        refine wpAnyH_take (i := 56) (oi := ⟨some 130, _, _, _, _, _⟩) (v := .bool false) rfl (by kernel_rfl) (by kernel_rfl) (by kernel_rfl) (fun _ _ _ h => h) (Or.inl ⟨by rfl, ?_⟩) (by assumption) ?_
                        · intro w hSw; (try dsimp only at hSw); go_simp <;> (first | with_reducible rfl | rfl | rw [g1] | rw [g3] | rw [g4] | rw [g5] | (rw [i6]; omega))
                        try simp only [Act.put, List.setIfInBounds_toArray, List.set_cons_zero, List.set_cons_succ]
                        refine wpAnyH_take (i := 57) (oi := ⟨some 131, _, _, _, _, _⟩) (v := ?_) rfl (by kernel_rfl) (by kernel_rfl) (by kernel_rfl) (fun _ _ _ h => h) (Or.inl ⟨by rfl, ?_⟩) (by assumption) ?_
                        rotate_left
                        · intro w hSw; (try dsimp only at hSw); go_simp <;> with_reducible rfl
                        try simp only [Act.put, List.setIfInBounds_toArray, List.set_cons_zero, List.set_cons_succ]
                        refine wpAnyH_done (by kernel_rfl) ?_ _
                        rotate_left
                        have BZ := hid (bgo BZ.out B6.out)
                        go_wp2_with fail
                        go_roundw
                        case rel => exact ⟨j + 1, by omega, by go_num, BZ⟩
                        case measure => simp [intOf]; omega
                      · clear hlt3
                        go_wp2_with fail
                        have g1 : ((d2.t : Int) != (d1.t : Int)) = true := bneT (by omega)
                        have g4 : decide ((e2 : Int) + 1 < (O : Int)) = false := decide_eq_false (by omega)
                        go_quiet (fail)
                        go_wp2_with fail
                        have BZ := hid (below_drewN BZ.out nq)
                        go_roundw
                        case rel => exact ⟨j + 1, by omega, by go_num, BZ⟩
                        case measure => simp [intOf]; omega
                    · clear HT2
                      go_wp2_with fail
                      have g1 : ((d2.t : Int) != (d1.t : Int)) = true := bneT (by omega)
                      have g3 : decide ((e : Int) < (e2 : Int)) = false := decide_eq_false (by omega)
                      go_quiet (fail)
                      go_wp2_with fail
                      have BZ := hid (below_drewN BZ.out nq)
                      go_roundw
                      case rel => exact ⟨j + 1, by omega, by go_num, BZ⟩
                      case measure => simp [intOf]; omega
                · have hr20 := hr20
                  go_wp2_with fail
                  have g1 : ((d2.t : Int) != (d1.t : Int)) = true := bneT (by omega)
                  have g2 : ((r2 : Int) == 0) = false := beqF (by omega)
                  go_quiet (fail)
                  go_wp2_with fail
                  have BZ := hid (below_drewN BZ.out nq)
                  go_roundw
                  case rel => exact ⟨j + 1, by omega, by go_num, BZ⟩
                  case measure => simp [intOf]; omega
            · obtain rfl : j = LD := by omega
              have j2 : ¬ (j : Int) < (j : Int) := by omega
              go_wp2_with fail
              go_roundw
              case rel => exact ⟨k + 1, by omega, by go_num, BZ⟩
              case measure => simp [intOf]; omega
      · have e1 : ¬ ((r : Int) = 0) := by omega
        go_wp2_with fail
        go_roundw
        case rel => exact ⟨k + 1, by omega, by go_num, BR⟩
        case measure => simp [intOf]; omega
    · obtain rfl : k = LD := by omega
      have j1 : ¬ (k : Int) < (k : Int) := by omega
      go_wp2_with fail
      go_ret
      exact ⟨rfl, bgo B03.out BR.out⟩
end Go.Proofs.YtiinnkdhccgelaaDoor
