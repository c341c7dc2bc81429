/-
  CellTells: its walk. Written by gen_cellt.py.
-/
import Derived.Test.YtbcjgnigdddlkaaDoorCellT0
import Derived.Test.YtbcjgnigdddlkaaDoorRan
import Derived.Test.YtbcjgnigdddlkaaDoorDsAt
import Derived.Deep.RegionHeld
namespace Go.Proofs.YtbcjgnigdddlkaaDoor
open Go.RowKit
set_option linter.unusedVariables false

/-- what is put -/
def cnum (cs : List Int) (n : Nat) : List Int := (List.range n).map fun k : Nat => cs.getD k 7
set_option maxHeartbeats 8000000 in
set_option maxRecDepth 100000 in
theorem law_cellTells (xi : Int) (D : Option Addr) (r s : Nat) (cs : List Int) (w : World) (ha : -9223372036854775808 ≤ xi) (ha1 : xi ≤ 9223372036854775807)
    (hr : r ≤ s) (hs : s ≤ maxLen) (_ : s * 8 ≤ 140737488351232) (hD : Sl w 1 D r (ints cs)) (hcs : ∀ x ∈ cs, -9223372036854775808 ≤ x ∧ x ≤ 9223372036854775807) (hT : STab w) :
    Calls Tryd.prog 16 #[.int .i64 xi, .slice D r s] w fun e w' => e = .returned (.bool true) ∧ Below w.heap.size w w' := by
  have HDD := hid hD; have HT := hid hT
  have HRL := hid (show cs.length = r from hD.leni)
  clear hD hT hcs
  have hrl : r ≤ 9223372036854775807 := by unfold maxLen at hs; omega
  clear hs
  have m1 := pk_lt xi 6 (by decide)
  obtain ⟨n, hR⟩ : ∃ n : Nat, wrap64 (1 + (pk xi 6 : Int)) = (n : Int) ∧ n = 1 + pk xi 6 := ⟨1 + pk xi 6, by rw [wrap_mid (by omega) (by omega)]; omega, rfl⟩
  have h1 : 1 ≤ n := by omega
  have h6 : n ≤ 6 := by omega
  have HR := hid hR.1
  clear hR m1
  go_enter Tryd.func16, Tryd.ntmps16
  go_wp2_with fail
  refine (picked xi 6 w (by decide) ha ha1 (by decide)).mono ?_
  rintro e w' ⟨rfl, rfl⟩
  go_wp2_with fail
  try rw [HR.out]
  refine (cell_machine n 2 1 w h1 h6 (by decide) (by decide) HT.out).mono ?_
  rintro e w1 hp1
  obtain ⟨AW, cW, Cb, T, cv1, tv, av, rfl, hW, hM, b1⟩ := hp1
  have HM := hid hM; have B1 := hid b1; have HW := hid hW
  clear hM b1 hW
  obtain ⟨X, hX⟩ : ∃ X, w1.heap.size = X := ⟨_, rfl⟩
  go_upto_region 4 with fail
  have HX0 := hid (blkN w1 34 #[.slice AW (n + 1) cW, .slice (some ⟨Cb, 0, none⟩) 2 2, .slice (some ⟨T, 0, none⟩) 4 4] X hX)
  have BA := hid (bgo B1.out (bnew (bnil w1) (.cells #[.slice AW (n + 1) cW, .slice (some ⟨Cb, 0, none⟩) 2 2, .slice (some ⟨T, 0, none⟩) 4 4] 34)))
  have HMN := hid (HM.out.below (bnew (bnil w1) (.cells #[.slice AW (n + 1) cW, .slice (some ⟨Cb, 0, none⟩) 2 2, .slice (some ⟨T, 0, none⟩) 4 4] 34)))
  have HWA := hid (own_below HW.out (bnew (bnil w1) (.cells #[.slice AW (n + 1) cW, .slice (some ⟨Cb, 0, none⟩) 2 2, .slice (some ⟨T, 0, none⟩) 4 4] 34)))
  try rw [hX]
  generalize World.alloc w1 _ = wA at *
  clear hX HM HW
  go_wp2_with fail
  go_loopw [8, 9] (fun u v wz => ∃ (k : Nat) (Aa : Option Addr) (ca : Nat), k ≤ n ∧ v = .int .i64 k ∧ u = .slice Aa k ca ∧ Hid (Ow wA wz 3 1 gI (.slice Aa k ca) (cnum cs k))) (fun _ v _ => n - (intOf v).toNat)
  case atStart => exact ⟨0, none, 0, Nat.zero_le _, rfl, rfl, hid (Ow.nil _ _ _ _)⟩
  case round =>
    obtain ⟨k, Aa, ca, hk, rfl, rfl, HO⟩ := hrel
    by_cases hlk : k < n
    · have i2 : (k : Int) < (n : Int) := by omega
      have HLK := hid (show (cnum cs k).length = k by unfold cnum; simp)
      obtain ⟨x, hx⟩ : ∃ x, cs.getD k 7 = x := ⟨_, rfl⟩
      obtain ⟨y, hy⟩ : ∃ y, cnum cs k ++ [x] = y := ⟨_, rfl⟩
      have HY := hid hy
      have HYE := hid (show y = cnum cs (k + 1) by rw [← hy, ← hx]; unfold cnum; rw [List.range_succ, List.map_append]; rfl)
      have HYL := hid (show y.length = k + 1 by rw [HYE.out]; unfold cnum; simp)
      clear hy
      have hcase : (k < r ∧ ∃ ad, D = some ad ∧ wr.cell? (ad.add k) = some (.int .i64 x)) ∨ (¬ k < r ∧ x = 7) := by
        by_cases h2 : k < r
        · left
          have hkl : k < cs.length := by rw [HRL.out]; exact h2
          have hgk : cs[k]? = some x := by
            rw [← hx, List.getD_eq_getElem?_getD, List.getElem?_eq_getElem hkl]; rfl
          obtain ⟨ad, e, hc⟩ := HDD.out.2 (by omega)
          have hh := flatMap_at gI 1 (fun _ => rfl) cs k 0 x hgk (by decide)
          rw [Nat.mul_one, Nat.add_zero] at hh
          exact ⟨h2, ad, e, cell_below (bgo BA.out HO.out.below) (hc k _ (by rw [show ints cs = cs.flatMap gI from rfl] at *; rw [hh]; rfl))⟩
        · exact .inr ⟨h2, by rw [← hx, List.getD_eq_getElem?_getD, List.getElem?_eq_none (by rw [HRL.out]; omega)]; rfl⟩
      clear hx
      rcases hcase with ⟨h2, ad, rfl, cx⟩ | ⟨h2, rfl⟩
      · have i3 : (k : Int) < (r : Int) := by omega
        go_wp2_with (at_builtin; refine wpList_appY elmI gI_one rfl (.tmp 38) (.tmp 40) rfl (.slice Aa k ca) (cnum cs k) rfl (HO.out.alloc _) [x] y HY rfl (Sl.fresh' _ #[_] 3 1 1 _ rfl rfl) rfl (by rw [HYL.out]; simp only [maxLen]; omega) (by rw [HYL.out]; omega) ?_; intro A4 c4 w4 hc4 hc5 HN4 _ _)
        go_roundw
        case rel => exact ⟨k + 1, A4, c4, by omega, by go_num, by rw [HYL.out], hid (by have h := HN4.out; rw [HYL.out] at h; rw [← HYE.out]; exact h)⟩
        case measure => simp [intOf]; omega
      · have i3 : ¬ (k : Int) < (r : Int) := by omega
        go_wp2_with (at_builtin; refine wpList_appY elmI gI_one rfl (.tmp 38) (.tmp 40) rfl (.slice Aa k ca) (cnum cs k) rfl (HO.out.alloc _) [(7 : Int)] y HY rfl (Sl.fresh' _ #[_] 3 1 1 _ rfl rfl) rfl (by rw [HYL.out]; simp only [maxLen]; omega) (by rw [HYL.out]; omega) ?_; intro A4 c4 w4 hc4 hc5 HN4 _ _)
        go_roundw
        case rel => exact ⟨k + 1, A4, c4, by omega, by go_num, by rw [HYL.out], hid (by have h := HN4.out; rw [HYL.out] at h; rw [← HYE.out]; exact h)⟩
        case measure => simp [intOf]; omega
    · obtain rfl : n = k := by omega
      have i2 : ¬ (n : Int) < (n : Int) := by omega
      have HVL := hid (show (cnum cs n).length = n by unfold cnum; simp)
      have HM2 := hid (HMN.out.below HO.out.below)
      have BO := hid (bgo BA.out HO.out.below)
      have HX2 := hid (HX0.out.below' HO.out.below)
      have HW2 := hid (own_below HWA.out HO.out.below)
      have HOA := hid (own_lower HO.out.own BA.out.size)
      obtain ⟨A0, c0, htv, hc0, hc02⟩ := own_form (HM2.out.rows 0 (by decide)).2.1
      obtain ⟨br, cr, hrb, _, hrc⟩ := own_at (HM2.out.rows 0 (by decide)).2.1 (show 0 < 2 by decide)
      rw [htv] at hrb
      injection hrb with e1 e2 e3
      subst e1
      have htv2 : tv 0 = .slice (some ⟨br, 0, none⟩) 2 c0 := htv
      have HS := hid (HM2.out.setArg BO.out (j := 0) (c := 1) (by decide) (x := ⟨0, cargs n 1⟩) rfl (args' := cnum cs n) (a' := ⟨Aa, n, ca⟩) (by have h := HOA.out; exact h) htv2)
      have x2 : wr.cell? ⟨X, 2, none⟩ = some (.slice (some ⟨T, 0, none⟩) 4 4) := HX2.out.cell 2
      have t0 : wr.cell? ⟨T, 0, none⟩ = some (.slice (some ⟨br, 0, none⟩) 2 c0) := by rw [HM2.out.tb.cell 0, arrN_at tv (by decide), htv2]
      obtain ⟨u3, hu3⟩ : ∃ u, wr.cell? ⟨br, 3, none⟩ = some u := ⟨_, hrc 3 _ (List.getElem?_eq_getElem (by
        rw [flatMap_len gS 2 (fun _ => rfl), List.length_zip, (HM2.out.rows 0 (by decide)).1, Nat.min_self]; show 3 < (cth n 2 1 1 0).length * 2; exact (by decide : 3 < 2 * 2)))⟩
      obtain ⟨cur0, HB0⟩ : ∃ cur, Hid (Blk wr br 49 cur) := by
        rcases (HM2.out.rows 0 (by decide)).2.1.2 with ⟨h0, _⟩ | ⟨g, cap, cur, hv, _, hh, _⟩
        · rw [htv2] at h0; cases h0
        · rw [htv2] at hv; injection hv with hv; injection hv with hv; injection hv with hv; subst hv; exact ⟨cur, hid hh⟩
      have f3 := HB0.out.frozen 3
      have hXbr : X ≠ br := fun e => by subst e; exact absurd (blk_ty HX2.out HB0.out) (by decide)
      have ltbr := HB0.out.lt
      clear hrc htv htv2 e3 e2 hc0 hc02
      go_upto_region 14 with fail
      obtain ⟨w3, hw3⟩ : ∃ w3, wr.setCell ⟨br, 3, none⟩ (.slice Aa n ca) = w3 := ⟨_, rfl⟩
      rw [hw3]
      have okS : ∀ {B e sz m : Nat} {v' : Value} {xs : List Value}, e ≠ 49 → wr.ownsRow B e sz v' m xs → w3.ownsRow B e sz v' m xs := fun h1 h2 => by
        rw [← hw3]
        exact own_chg h2 ((Chg.refl (fun k => k = br) wr).setCell (p := ⟨br, 3, none⟩) (fun _ => rfl) _) fun k hk e => own_ne_blk h2 HB0.out h1 (by rw [hk, e])
      have HM3 := hid (show MN w.heap.size w3 2 4 Cb T cv1 (fun i => [cputCode n, cgetCode n].getD i []) tv (upd (cth n 2 1 1) 0 ((cth n 2 1 1 0).set 1 ⟨0, cnum cs n⟩)) _ by rw [← hw3]; exact HS.out.1)
      have B3 := hid (show Below w.heap.size w w3 by rw [← hw3]; exact HS.out.2)
      have HX3 := hid (show Blk w3 X 34 #[.slice AW (n + 1) cW, .slice (some ⟨Cb, 0, none⟩) 2 2, .slice (some ⟨T, 0, none⟩) 4 4] by rw [← hw3]; exact HX2.out.far (p := ⟨br, 3, none⟩) hXbr _)
      have HW3 := hid (okS (by decide) HW2.out)
      have HV3 := hid (show Sl w3 1 Aa n (ints (cnum cs n)) from by have h := HOA.out; rw [HVL.out] at h; exact Sl.own (okS (e := 3) (by decide) h))
      clear hw3 okS x2 t0 hu3 f3 ltbr HM2 HX2 HW2 HOA HS HMN HX0 HWA BA HO BO
      obtain ⟨bl, hbl⟩ : ∃ bl, w3.heap.size = bl := ⟨_, rfl⟩
      have HBL := hid (blkN w3 3 #[.int .i64 1, .int .i64 0, .int .i64 2] bl hbl)
      have BL := hid (bnew (bnil w3) (.cells #[.int .i64 1, .int .i64 0, .int .i64 2] 3))
      go_wp2_with fail
      try rw [hbl]
      clear hbl
      generalize World.alloc w3 _ = w4 at *
      go_loopw [11, 53] (fun u v wx => ∃ (j : Nat) (As : Option Addr) (cS : Nat), j ≤ 3 ∧ v = .int .i64 j ∧ u = .slice As (160 * j) cS ∧ Hid (Ow w4 wx 3 1 gI (.slice As (160 * j) cS) ((csl j 0).map fun x : Nat => (x : Int)))) (fun _ v _ => 3 - (intOf v).toNat)
      case atStart => exact ⟨0, none, 0, Nat.zero_le _, rfl, rfl, hid (Ow.nil _ _ _ _)⟩
      case round =>
        obtain ⟨j, As, cS, hj3, rfl, rfl, HO⟩ := hrel
        by_cases hlj : j < 3
        · have i3 : (j : Int) < 3 := by omega
          obtain ⟨t, ht⟩ : ∃ t, ([1, 0, 2] : List Nat).getD j 0 = t := ⟨_, rfl⟩
          have ct : wr.cell? ⟨bl, j, none⟩ = some (.int .i64 (t : Int)) := by
            rw [(HBL.out.below' HO.out.below).cell j, ← ht]
            rcases (show j = 0 ∨ j = 1 ∨ j = 2 by omega) with rfl | rfl | rfl <;> rfl
          have HTT := hid ht
          clear ht
          go_wp2_with fail
          clear ct
          obtain ⟨J, hJ⟩ : ∃ J, 160 * j = J := ⟨_, rfl⟩
          have HJ := hid hJ
          rw [hJ] at HO ⊢
          clear hJ
          go_loopw [11, 14] (fun u v wx => ∃ (i : Nat) (As : Option Addr) (cS : Nat), i ≤ 160 ∧ v = .int .i64 i ∧ u = .slice As (J + i) cS ∧ Hid (Ow w4 wx 3 1 gI (.slice As (J + i) cS) ((csl j i).map fun x : Nat => (x : Int)))) (fun _ v _ => 160 - (intOf v).toNat)
          case atStart => exact ⟨0, As, cS, Nat.zero_le _, rfl, rfl, HO⟩
          case round =>
            clear HO
            obtain ⟨i, As, cS, hi, rfl, rfl, HO⟩ := hrel
            have hJ4 : J ≤ 320 := by have := HJ.out; omega
            by_cases hli : i < 160
            · have i4 : (i : Int) < 160 := by omega
              obtain ⟨y, hy⟩ : ∃ y, ((csl j i).map fun x : Nat => (x : Int)) ++ [(t : Int)] = y := ⟨_, rfl⟩
              have HY := hid hy
              have HYE := hid (show y = (csl j (i + 1)).map fun x : Nat => (x : Int) by rw [← hy, ← csl_next, List.map_append, HTT.out]; rfl)
              have HYL := hid (show y.length = J + (i + 1) by rw [HYE.out, List.length_map, csl_len (by omega), HJ.out])
              clear hy
              go_wp2_with (at_builtin; refine wpList_appY elmI gI_one rfl (.tmp 61) (.tmp 63) rfl (.slice As (J + i) cS) _ rfl (HO.out.alloc _) [(t : Int)] y HY rfl (Sl.fresh' _ #[_] 3 1 1 _ rfl rfl) rfl (by rw [HYL.out]; simp only [maxLen]; omega) (by rw [HYL.out]; omega) ?_; intro A4 c4 w5 hc4 hc5 HN4 _ _)
              go_roundw
              case rel => exact ⟨i + 1, A4, c4, by omega, by go_num, by rw [HYL.out], hid (by have h := HN4.out; rw [HYL.out] at h; rw [← HYE.out]; exact h)⟩
              case measure => simp [intOf]; omega
            · obtain rfl : i = 160 := by omega
              have i4 : ¬ ((160 : Nat) : Int) < 160 := by omega
              have HON := hid (show Ow w4 wr 3 1 gI (.slice As (160 * (j + 1)) cS) ((csl (j + 1) 0).map fun x : Nat => (x : Int)) by have h := HO.out; rw [← HJ.out, csl_round hlj] at h; exact h)
              have hJ5 : J + 160 = 160 * (j + 1) := by have := HJ.out; omega
              rw [hJ5]
              clear HO hJ5
              obtain ⟨J2, hJ2⟩ : ∃ J2, 160 * (j + 1) = J2 := ⟨_, rfl⟩
              rw [hJ2] at HON ⊢
              have HJ2 := hid hJ2
              clear hJ2
              go_wp2_with fail
              go_roundw
              case rel => exact ⟨j + 1, As, cS, by omega, by go_num, by rw [HJ2.out], by rw [HJ2.out]; exact HON⟩
              case measure => simp [intOf]; omega
        · obtain rfl : j = 3 := by omega
          have i3 : ¬ ((3 : Nat) : Int) < 3 := by omega
          have hcs : 480 ≤ cS := by obtain ⟨A', c', e, h1, _⟩ := HO.out.form; injection e with e1 e2 e3; omega
          have B5 := hid (bgo BL.out HO.out.below)
          have HX5 := hid (HX3.out.below' B5.out)
          have y0 : wr.cell? ⟨X, 0, none⟩ = some (.slice AW (n + 1) cW) := HX5.out.cell 0
          have y1 : wr.cell? ⟨X, 1, none⟩ = some (.slice (some ⟨Cb, 0, none⟩) 2 2) := HX5.out.cell 1
          have y2 : wr.cell? ⟨X, 2, none⟩ = some (.slice (some ⟨T, 0, none⟩) 4 4) := HX5.out.cell 2
          have HSS := hid (show Sl wr 1 As 480 (ints ((csl 3 0).map fun x : Nat => (x : Int))) from HO.out.sl)
          go_wp2_with fail
          have HPL := hid (cell_tells h1 h6 (cnum cs n) HVL.out)
          refine (ran_of AW (some ⟨Cb, 0, none⟩) (some ⟨T, 0, none⟩) As (n + 1) cW 2 2 4 4 480 cS (cmachT n (cnum cs n)) (csl 3 0) wr (by omega) (by decide) (by decide) (by decide) hcs ((HT.out.below B3.out).below B5.out) (cmachT_at (HM3.out.below B5.out) h1 h6 (by rw [HVL.out]; omega)) (Sl.own (own_below HW3.out B5.out)) HSS.out csl_lt (by rw [HPL.out]; exact cevs_err n _) (play_fin _ _)).mono ?_
          rintro e w5 hp3
          obtain ⟨v3, rs, rfl, hrow, hrs, htold, b3⟩ := hp3
          rw [HPL.out, cdoings] at hrs
          obtain ⟨A3, c3, rfl, hc3, hc3'⟩ := own_form hrow
          have hLD : rs.length = 4 := by have := congrArg List.length hrs; rw [List.length_map] at this; exact this
          rw [hLD] at hrow hc3 ⊢
          have HD := hid (DsAt.mk hLD hrow htold)
          have HRS := hid hrs
          have B7 := hid b3
          clear hrow htold hrs b3 hLD y0 y1 y2 HSS
          obtain ⟨b9, d0, At0, ct0, rfl, hd0, -, -, u1, -, -, u4, ut0⟩ := HD.out.at_ (i := 0) (by decide)
          obtain ⟨b8, d2, At2, ct2, hA8, hd2, -, -, v1, -, -, -, -⟩ := HD.out.at_ (i := 2) (by decide)
          injection hA8 with hA8; injection hA8 with hA8
          subst hA8
          obtain ⟨b8, d3, At3, ct3, hA8, hd3, -, -, z1, -, -, z4, ut3⟩ := HD.out.at_ (i := 3) (by decide)
          injection hA8 with hA8; injection hA8 with hA8
          subst hA8
          rw [HRS.out] at hd0 hd2 hd3
          injection hd0 with hd0; injection hd2 with hd2; injection hd3 with hd3
          subst hd0 hd2 hd3
          obtain ⟨E0, hE0, hE01⟩ : ∃ E0 : Int, eI (some (2 * n + 6)) = E0 ∧ E0 ≠ -1 := ⟨_, rfl, by show ((2 * n + 6 : Nat) : Int) ≠ -1; omega⟩
          obtain ⟨E2, hE2, hE21⟩ : ∃ E2 : Int, eI (some (166 + n + 5 + n)) = E2 ∧ E2 ≠ -1 := ⟨_, rfl, by show ((166 + n + 5 + n : Nat) : Int) ≠ -1; omega⟩
          obtain ⟨E3, hE3, hE31⟩ : ∃ E3 : Int, eI (some (326 + 2 * n)) = E3 ∧ E3 ≠ -1 := ⟨_, rfl, by show ((326 + 2 * n : Nat) : Int) ≠ -1; omega⟩
          replace u1 : w5.cell? ⟨b9, 1, none⟩ = some (.int .i64 E0) := by rw [← hE0]; exact u1
          replace v1 : w5.cell? ⟨b9, 11, none⟩ = some (.int .i64 E2) := by rw [← hE2, show 166 + n + 5 + n = 171 + 2 * n by omega]; exact v1
          replace z1 : w5.cell? ⟨b9, 16, none⟩ = some (.int .i64 E3) := by rw [← hE3]; exact z1
          replace u4 : w5.cell? ⟨b9, 4, none⟩ = some (.slice At0 n ct0) := by have h : w5.cell? ⟨b9, 4, none⟩ = some (.slice At0 (List.replicate n (0 : Int)).length ct0) := u4; rw [List.length_replicate] at h; exact h
          replace z4 : w5.cell? ⟨b9, 19, none⟩ = some (.slice At3 n ct3) := by have h : w5.cell? ⟨b9, 19, none⟩ = some (.slice At3 (cnum cs n).length ct3) := z4; rw [HVL.out] at h; exact h
          have HU0 := hid (show Sl w5 1 At0 n (ints (List.replicate n (0 : Int))) from by have h := ut0; have h2 : w5.ownsRow _ 3 1 (.slice At0 (List.replicate n (0 : Int)).length ct0) (List.replicate n (0 : Int)).length ((List.replicate n (0 : Int)).flatMap gI) := h; rw [List.length_replicate] at h2; exact Sl.own h2)
          have HU3 := hid (show Sl w5 1 At3 n (ints (cnum cs n)) from by have h2 : w5.ownsRow _ 3 1 (.slice At3 (cnum cs n).length ct3) (cnum cs n).length ((cnum cs n).flatMap gI) := ut3; rw [HVL.out] at h2; exact Sl.own h2)
          have HV5 := hid ((HV3.out.below B5.out).below B7.out)
          have B03 := hid (bgo (bgo B3.out B5.out) B7.out)
          have e0 : (E0 == -1) = false := beqF hE01
          have e2 : (E2 == -1) = false := beqF hE21
          have e3 : (E3 == -1) = false := beqF hE31
          clear hE0 hE2 hE3 ut0 ut3
          go_upto_region 26 with fail
          clear u1 v1 z1 e0 e2 e3 hE01 hE21 hE31
          obtain ⟨w6, hw6⟩ : ∃ w6, w6 = w5 := ⟨_, rfl⟩
          subst hw6
          have hn9 : n ≤ 9223372036854775807 := by omega
          obtain ⟨cz, hcz, hmk⟩ := mk_intsL w6.drew n (by omega)
          have HCZ := hid hcz
          clear hcz
          refine wp_region_held_drew (S := (fun w' => w'.cell? ⟨b9, 4, none⟩ = some (.slice At0 n ct0) ∧ w'.cell? ⟨b9, 19, none⟩ = some (.slice At3 n ct3))) (by kernel_rfl) ?_ (fun hHeld => ?_)
          · (try dsimp only); (first | assumption | exact ⟨u4, z4⟩ | exact ⟨cell_below b8 u4, cell_below b8 z4⟩ | exact ⟨cell_below b7 u4, cell_below b7 z4⟩ | exact ⟨cell_below (bnew (bnil w6).drew _) u4, cell_below (bnew (bnil w6).drew _) z4⟩)
          refine wpAnyH_take (i := 0) (oi := ⟨some 100, _, _, _, _, _⟩) (v := ?_) rfl (by kernel_rfl) (by kernel_rfl) (by kernel_rfl) (fun _ _ _ h => h) (Or.inl ⟨by rfl, ?_⟩) (by assumption) ?_
          rotate_left
          · intro w hSw; (try dsimp only at hSw); go_simp <;> with_reducible rfl
          try simp only [Act.put, List.setIfInBounds_toArray, List.set_cons_zero, List.set_cons_succ]
          refine wpAnyH_take (i := 1) (oi := ⟨some 101, _, _, _, _, _⟩) (v := ?_) rfl (by kernel_rfl) (by kernel_rfl) (by kernel_rfl) (fun _ _ _ h => h) (Or.inl ⟨by rfl, ?_⟩) (by assumption) ?_
          rotate_left
          · intro w hSw; (try dsimp only at hSw); go_simp <;> with_reducible rfl
          try simp only [Act.put, List.setIfInBounds_toArray, List.set_cons_zero, List.set_cons_succ]
          refine wpAnyH_take (i := 2) (oi := ⟨some 102, _, _, _, _, _⟩) (v := ?_) rfl (by kernel_rfl) (by kernel_rfl) (by kernel_rfl) (fun _ _ _ h => h) (Or.inl ⟨by rfl, ?_⟩) (by assumption) ?_
          rotate_left
          · intro w hSw; (try dsimp only at hSw); go_simp <;> with_reducible rfl
          try simp only [Act.put, List.setIfInBounds_toArray, List.set_cons_zero, List.set_cons_succ]
          refine wpAnyH_take (i := 3) (oi := ⟨some 103, _, _, _, _, _⟩) (v := ?_) rfl (by kernel_rfl) (by kernel_rfl) (by kernel_rfl) (fun _ _ _ h => h) (Or.inl ⟨by rfl, ?_⟩) (by assumption) ?_
          rotate_left
          · intro w hSw; (try dsimp only at hSw); go_simp <;> with_reducible rfl
          try simp only [Act.put, List.setIfInBounds_toArray, List.set_cons_zero, List.set_cons_succ]
          refine wpAnyH_take (i := 4) (oi := ⟨some 104, _, _, _, _, _⟩) (v := ?_) rfl (by kernel_rfl) (by kernel_rfl) (by kernel_rfl) (fun _ _ _ h => h) (Or.inl ⟨by rfl, ?_⟩) (by assumption) ?_
          rotate_left
          · intro w hSw; (try dsimp only at hSw); go_simp <;> with_reducible rfl
          try simp only [Act.put, List.setIfInBounds_toArray, List.set_cons_zero, List.set_cons_succ]
          refine wpAnyH_ready (rs := [5]) (by kernel_rfl) (by simp) ?_
          refine AllReadyH.cons (o := ⟨some 105, _, _, _, _, _⟩) rfl (fun K hK => ?_) AllReadyH.nil
          go_simp
          refine hK.out _ _ ?_ (fun hHeld => ?_)
          · (try dsimp only); (first | assumption | exact ⟨u4, z4⟩ | exact ⟨cell_below b8 u4, cell_below b8 z4⟩ | exact ⟨cell_below b7 u4, cell_below b7 z4⟩ | exact ⟨cell_below (bnew (bnil w6).drew _) u4, cell_below (bnew (bnil w6).drew _) z4⟩)
          clear hK K
          try simp only [Act.put, List.setIfInBounds_toArray, List.set_cons_zero, List.set_cons_succ]
          refine wpAnyH_ready (rs := [6]) (by kernel_rfl) (by simp) ?_
          refine AllReadyH.cons (o := ⟨some 106, _, _, _, _, _⟩) rfl (fun K hK => ?_) AllReadyH.nil
          go_simp
          refine (same_ints At0 (some ⟨w6.drew.heap.size, 0, none⟩) n ct0 n (List.replicate n 0) _ hn9 (HU0.out.below (bnew (bnil w6).drew _)) (by have h := Sl.fresh w6.drew cz 3 1 n (by rw [← Array.length_toList, HCZ.out, flatMap_len gI 1 (fun _ => rfl)]; simp); rw [HCZ.out] at h; exact h)).mono ?_; rintro e w7 ⟨rfl, b7⟩; have b7 := bgo (bnew (bnil w6).drew _) b7
          go_wp2_with fail
          refine hK.out _ _ ?_ (fun hHeld => ?_)
          · (try dsimp only); (first | assumption | exact ⟨u4, z4⟩ | exact ⟨cell_below b8 u4, cell_below b8 z4⟩ | exact ⟨cell_below b7 u4, cell_below b7 z4⟩ | exact ⟨cell_below (bnew (bnil w6).drew _) u4, cell_below (bnew (bnil w6).drew _) z4⟩)
          clear hK K
          try simp only [Act.put, List.setIfInBounds_toArray, List.set_cons_zero, List.set_cons_succ]
          refine wpAnyH_take (i := 7) (oi := ⟨some 107, _, _, _, _, _⟩) (v := ?_) rfl (by kernel_rfl) (by kernel_rfl) (by kernel_rfl) (fun _ _ _ h => h) (Or.inl ⟨by rfl, ?_⟩) (by assumption) ?_
          rotate_left
          · intro w hSw; (try dsimp only at hSw); go_simp <;> with_reducible rfl
          try simp only [Act.put, List.setIfInBounds_toArray, List.set_cons_zero, List.set_cons_succ]
          refine wpAnyH_take (i := 8) (oi := ⟨some 108, _, _, _, _, _⟩) (v := ?_) rfl (by kernel_rfl) (by kernel_rfl) (by kernel_rfl) (fun _ _ _ h => h) (Or.inl ⟨by rfl, ?_⟩) (by assumption) ?_
          rotate_left
          · intro w hSw; (try dsimp only at hSw); go_simp <;> with_reducible rfl
          try simp only [Act.put, List.setIfInBounds_toArray, List.set_cons_zero, List.set_cons_succ]
          refine wpAnyH_take (i := 9) (oi := ⟨some 109, _, _, _, _, _⟩) (v := ?_) rfl (by kernel_rfl) (by kernel_rfl) (by kernel_rfl) (fun _ _ _ h => h) (Or.inl ⟨by rfl, ?_⟩) (by assumption) ?_
          rotate_left
          · intro w hSw; (try dsimp only at hSw); go_simp <;> with_reducible rfl
          try simp only [Act.put, List.setIfInBounds_toArray, List.set_cons_zero, List.set_cons_succ]
          refine wpAnyH_take (i := 10) (oi := ⟨some 110, _, _, _, _, _⟩) (v := ?_) rfl (by kernel_rfl) (by kernel_rfl) (by kernel_rfl) (fun _ _ _ h => h) (Or.inl ⟨by rfl, ?_⟩) (by assumption) ?_
          rotate_left
          · intro w hSw; (try dsimp only at hSw); go_simp <;> with_reducible rfl
          try simp only [Act.put, List.setIfInBounds_toArray, List.set_cons_zero, List.set_cons_succ]
          refine wpAnyH_take (i := 11) (oi := ⟨some 111, _, _, _, _, _⟩) (v := ?_) rfl (by kernel_rfl) (by kernel_rfl) (by kernel_rfl) (fun _ _ _ h => h) (Or.inl ⟨by rfl, ?_⟩) (by assumption) ?_
          rotate_left
          · intro w hSw; (try dsimp only at hSw); go_simp <;> with_reducible rfl
          try simp only [Act.put, List.setIfInBounds_toArray, List.set_cons_zero, List.set_cons_succ]
          refine wpAnyH_take (i := 12) (oi := ⟨some 112, _, _, _, _, _⟩) (v := ?_) rfl (by kernel_rfl) (by kernel_rfl) (by kernel_rfl) (fun _ _ _ h => h) (Or.inl ⟨by rfl, ?_⟩) (by assumption) ?_
          rotate_left
          · intro w hSw; (try dsimp only at hSw); go_simp <;> with_reducible rfl
          try simp only [Act.put, List.setIfInBounds_toArray, List.set_cons_zero, List.set_cons_succ]
          refine wpAnyH_ready (rs := [13]) (by kernel_rfl) (by simp) ?_
          refine AllReadyH.cons (o := ⟨some 113, _, _, _, _, _⟩) rfl (fun K hK => ?_) AllReadyH.nil
          go_simp
          refine (same_ints At3 Aa n ct3 ca (cnum cs n) w7 hn9 (HU3.out.below b7) (HV5.out.below b7)).mono ?_; rintro e w8 ⟨rfl, b8⟩; have b8 := bgo b7 b8
          go_wp2_with fail
          refine hK.out _ _ ?_ (fun hHeld => ?_)
          · (try dsimp only); (first | assumption | exact ⟨u4, z4⟩ | exact ⟨cell_below b8 u4, cell_below b8 z4⟩ | exact ⟨cell_below b7 u4, cell_below b7 z4⟩ | exact ⟨cell_below (bnew (bnil w6).drew _) u4, cell_below (bnew (bnil w6).drew _) z4⟩)
          clear hK K
          try simp only [Act.put, List.setIfInBounds_toArray, List.set_cons_zero, List.set_cons_succ]
          refine wpAnyH_take (i := 14) (oi := ⟨some 114, _, _, _, _, _⟩) (v := ?_) rfl (by kernel_rfl) (by kernel_rfl) (by kernel_rfl) (fun _ _ _ h => h) (Or.inl ⟨by rfl, ?_⟩) (by assumption) ?_
          rotate_left
          · intro w hSw; (try dsimp only at hSw); go_simp <;> with_reducible rfl
          try simp only [Act.put, List.setIfInBounds_toArray, List.set_cons_zero, List.set_cons_succ]
          refine wpAnyH_take (i := 15) (oi := ⟨some 4, _, _, _, _, _⟩) (v := ?_) rfl (by kernel_rfl) (by kernel_rfl) (by kernel_rfl) (fun _ _ _ h => h) (Or.inl ⟨by rfl, ?_⟩) (by assumption) ?_
          rotate_left
          · intro w hSw; (try dsimp only at hSw); go_simp <;> with_reducible rfl
          try simp only [Act.put, List.setIfInBounds_toArray, List.set_cons_zero, List.set_cons_succ]
          refine wpAnyH_done (by kernel_rfl) ?_ _
          rotate_left
          have B09 := hid (bgo B03.out b8)
          clear hHeld
          go_wp2_with fail
          go_ret
          exact ⟨rfl, B09.out⟩
end Go.Proofs.YtbcjgnigdddlkaaDoor
