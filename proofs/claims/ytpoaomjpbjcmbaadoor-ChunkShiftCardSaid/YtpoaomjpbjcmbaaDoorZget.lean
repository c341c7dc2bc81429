/-
  zig.Get, zig.Decode: their walks.
-/
import Derived.Test.YtpoaomjpbjcmbaaDoorZread
namespace Go.Proofs.YtpoaomjpbjcmbaaDoor
open Go.RowKit
set_option linter.unusedVariables false
theorem eye_none (w : World) (g i n c k : Nat) (A : Option Addr) (hn : n ≤ 1000000000000000) (hk : k ≤ 60) (hi : i ≤ n * 8) (hi2 : n * 8 < i + k) (hb : Blk w g 101 (eyeO (.slice A n c) i)) :
    Calls Tryd.prog 52 #[.pointer (some ⟨g, 0, none⟩), .int .i64 (k : Int)] w fun e w' => e = .returned (.tuple #[.int .i64 0, .bool false]) ∧ ∃ j, w' = w.drewN j := by
  go_enter Tryd.func52, Tryd.ntmps52
  go_wp2_with fail
  refine (eye_left w g i n c A (by omega) (by omega) hb).mono ?_
  rintro e w1 ⟨rfl, kd, rfl⟩
  have i1 : ((n * 8 - i : Nat) : Int) < (k : Int) := by omega
  go_wp2
  go_ret2
  exact ⟨rfl, kd, rfl⟩
theorem zhead_ones (m : Nat) (d : List Bool) (h : ∀ j, j < m → d[j]? = some true) : d = List.replicate m true ++ d.drop m ∨ d.length < m := by
  rcases Nat.lt_or_ge d.length m with h1 | h1
  · exact .inr h1
  · left
    have e : d.take m = List.replicate m true := by
      refine List.ext_getElem? fun i => ?_
      rw [List.getElem?_take, List.getElem?_replicate]
      split
      · rename_i hi; exact h i hi
      · rfl
    conv => lhs; rw [← List.take_append_drop m d]
    rw [e]
theorem zread_none (m : Nat) (d : List Bool) (hm : m < 4) (h : ∀ j, j < m → d[j]? = some true) (hl : d.length = m) : zread d = (0, 5, 0) := by
  rcases zhead_ones m d h with e | e
  · rw [e, List.drop_eq_nil_of_le (by omega)]
    match m, hm with
    | 0, _ => rfl
    | 1, _ => rfl
    | 2, _ => rfl
    | 3, _ => rfl
  · omega
theorem zhead_zero (m : Nat) (d : List Bool) (hm : m < 4) (h : ∀ j, j < m → d[j]? = some true) (h2 : d[m]? = some false) : zhead d = some (m, m + 1) := by
  have hl := (List.getElem?_eq_some_iff.1 h2).1
  rcases zhead_ones m d h with e | e
  · have e2 : d.drop m = false :: d.drop (m + 1) := by
      rw [List.drop_eq_getElem_cons hl]
      rw [List.getElem?_eq_getElem hl] at h2; injection h2 with h2; rw [h2]
    rw [e, e2]
    match m, hm with
    | 0, _ => rfl
    | 1, _ => rfl
    | 2, _ => rfl
    | 3, _ => rfl
  · omega
theorem zhead_four (d : List Bool) (h : ∀ j, j < 4 → d[j]? = some true) : zhead d = some (4, 4) := by
  have hl := (List.getElem?_eq_some_iff.1 (h 3 (by omega))).1
  rcases zhead_ones 4 d h with e | e
  · rw [e]; rfl
  · omega
theorem seen_one (l : List UInt8) (p : Nat) (b : Bool) (h : (unp l)[p]? = some b) : numOf (seen l p 1) = b.toNat := by
  have hl := (List.getElem?_eq_some_iff.1 h).1
  rw [List.getElem?_eq_getElem hl] at h; injection h with h
  unfold seen
  rw [List.drop_eq_getElem_cons hl, h]
  cases b <;> rfl
def zrow : Nat → Nat × Nat × Nat
  | 0 => (0, 1, 0)
  | 1 => (2, 2, 6)
  | 2 => (6, 3, 12)
  | 3 => (14, 4, 24)
  | _ => (15, 4, 59)
theorem zcls_row (x : Nat) : zcls x = zrow (zidx x) := by
  unfold zcls zidx
  by_cases h0 : x = 0
  · simp only [h0, if_true]; rfl
  · rw [if_neg h0, if_neg h0]
    by_cases h1 : x < 64
    · simp only [h1, if_true]; rfl
    · rw [if_neg h1, if_neg h1]
      by_cases h2 : x < 4096
      · simp only [h2, if_true]; rfl
      · rw [if_neg h2, if_neg h2]
        by_cases h3 : x < 16777216
        · simp only [h3, if_true]; rfl
        · simp only [h3, if_false]; rfl
theorem zidx_le (x : Nat) : zidx x ≤ 4 := by
  unfold zidx
  split
  · omega
  · split
    · omega
    · split
      · omega
      · split <;> omega
theorem zrow_ne (a b : Nat) (ha : a ≤ 4) (hb : b ≤ 4) (h : a ≠ b) : (zrow a).1 ≠ (zrow b).1 := by
  revert h
  match a, ha, b, hb with
  | 0, _, 0, _ => decide
  | 0, _, 1, _ => decide
  | 0, _, 2, _ => decide
  | 0, _, 3, _ => decide
  | 0, _, 4, _ => decide
  | 1, _, 0, _ => decide
  | 1, _, 1, _ => decide
  | 1, _, 2, _ => decide
  | 1, _, 3, _ => decide
  | 1, _, 4, _ => decide
  | 2, _, 0, _ => decide
  | 2, _, 1, _ => decide
  | 2, _, 2, _ => decide
  | 2, _, 3, _ => decide
  | 2, _, 4, _ => decide
  | 3, _, 0, _ => decide
  | 3, _, 1, _ => decide
  | 3, _, 2, _ => decide
  | 3, _, 3, _ => decide
  | 3, _, 4, _ => decide
  | 4, _, 0, _ => decide
  | 4, _, 1, _ => decide
  | 4, _, 2, _ => decide
  | 4, _, 3, _ => decide
  | 4, _, 4, _ => decide
theorem ztab_row (m : Nat) (h : m ≤ 4) : ztab[m * 3]? = some (.int .i64 ((zrow m).1 : Int)) ∧ ztab[m * 3 + 1]? = some (.int .i64 ((zrow m).2.1 : Int)) ∧ ztab[m * 3 + 2]? = some (.int .i64 ((zrow m).2.2 : Int)) := by
  match m, h with
  | 0, _ => exact ⟨rfl, rfl, rfl⟩
  | 1, _ => exact ⟨rfl, rfl, rfl⟩
  | 2, _ => exact ⟨rfl, rfl, rfl⟩
  | 3, _ => exact ⟨rfl, rfl, rfl⟩
  | 4, _ => exact ⟨rfl, rfl, rfl⟩
theorem sees3 {W w' : World} {B : Nat} {a b c : Addr} {u v x : Value} (h : Below W.heap.size W w') (ha : W.cell? a = some u) (hb : W.cell? b = some v) (hc : W.cell? c = some x) :
    Below W.heap.size W w' ∧ w'.cell? a = some u ∧ w'.cell? b = some v ∧ w'.cell? c = some x := ⟨h, cell_below h ha, cell_below h hb, cell_below h hc⟩
theorem zwid_le (k : Nat) : zwid k ≤ 59 := by unfold zwid; split <;> omega
theorem ztab_wid (m : Nat) (h : m ≤ 4) : ztab[m * 3 + 2]? = some (.int .i64 (zwid m : Int)) := by
  match m, h with
  | 0, _ => rfl
  | 1, _ => rfl
  | 2, _ => rfl
  | 3, _ => rfl
  | 4, _ => rfl
set_option maxRecDepth 100000 in
set_option maxHeartbeats 4000000 in
theorem zig_get (w : World) (g i n c : Nat) (A : Option Addr) (l : List UInt8) (hn : n ≤ 1000000000000000) (hi : i ≤ n * 8) (hb : Blk w g 101 (eyeO (.slice A n c) i))
    (hA : Sl w 1 A n (byts l)) (hne : 0 < n → ∀ ad, A = some ad → ad.block ≠ g) (ht : ZTab w) (hg : g ≠ 0) :
    Calls Tryd.prog 44 #[.pointer (some ⟨g, 0, none⟩)] w fun e w' => e = .returned (.tuple #[.int .i64 (zread ((unp l).drop i)).1, .int .i64 ((zread ((unp l).drop i)).2.1 : Int)]) ∧
      (∃ j, j ≤ n * 8 ∧ Blk w' g 101 (eyeO (.slice A n c) j) ∧ ((zread ((unp l).drop i)).2.1 = 0 → j = i + (zread ((unp l).drop i)).2.2)) ∧ Chg (fun x => x = g) w w' := by
  have HB := hid hb; have HA := hid hA; have HNE := hid hne; have HT := hid ht; clear hb hA hne ht
  have HLn := hid HA.out.lenb
  have HUL := hid (show (unp l).length = n * 8 by rw [unp_len, HLn.out])
  go_enter Tryd.func44, Tryd.ntmps44
  go_wp2
  go_loopw [4, 5, 6] (fun k _ _ wr => ∃ m : Nat, m ≤ 4 ∧ k = .int .i64 m ∧ i + m ≤ n * 8 ∧ Hid (∀ j, j < m → ((unp l).drop i)[j]? = some true) ∧ Blk wr g 101 (eyeO (.slice A n c) (i + m)) ∧ Chg (fun x => x = g) w wr) (fun k _ _ _ => 4 - (intOf k).toNat)
  case atStart => exact ⟨0, by omega, rfl, by omega, hid (fun j hj => by omega), HB.out, Chg.refl _ w⟩
  case round =>
    obtain ⟨m, hm, rfl, hpos, HONES, hbk, hch⟩ := hrel
    have HBK := hid hbk; have HCH := hid hch; clear hbk hch
    by_cases hlt : m < 4
    · have i2 : (m : Int) < 4 := by omega
      by_cases hend : i + m = n * 8
      · go_wp2_with fail
        refine (eye_none wr g (i + m) n c 1 A (by omega) (by omega) hpos (by omega) HBK.out).mono ?_
        rintro e w2 ⟨rfl, kd, rfl⟩
        go_wp2
        go_ret2
        have hz := zread_none m ((unp l).drop i) hlt HONES.out (by rw [List.length_drop, HUL.out]; omega)
        rw [hz]
        exact ⟨rfl, ⟨i + m, hpos, HBK.out, by simp⟩, HCH.out.drewN _⟩
      · obtain ⟨b, hbit⟩ : ∃ b, (unp l)[i + m]? = some b := ⟨_, List.getElem?_eq_getElem (by rw [HUL.out]; omega)⟩
        have HS := hid (seen_one l (i + m) b hbit)
        have HBIT := hid (show ((unp l).drop i)[m]? = some b by rw [List.getElem?_drop]; exact hbit)
        clear hbit
        go_wp2_with fail
        refine (eye_get wr g (i + m) n c 1 A l (by omega) (by omega) (by omega) HBK.out (HA.out.chg HCH.out HNE.out) HNE.out).mono ?_
        rintro e w2 ⟨rfl, hb2, hc2⟩
        have HB2 := hid hb2
        have HC2 := hid (HCH.out.trans hc2 (fun _ _ h => h))
        clear hb2 hc2
        rw [HS.out]
        cases b
        · have HBP := HB2; have HCP := HC2
          have HZ := hid (zhead_zero m _ hlt HONES.out HBIT.out)
          have hp1 : i + m + 1 ≤ n * 8 := by omega
          clear HB2 HC2 HBIT HS hpos
          obtain ⟨P, hPe⟩ : ∃ P, i + m + 1 = P := ⟨_, rfl⟩
          have HPe : P = i + (m + 1) := by omega
          rw [hPe] at HBP hp1
          clear hPe
          have hP : P ≤ n * 8 := by omega
          have HT2 := hid (HT.out.chg HCP.out (by intro e; exact hg e.symm))
          have tc := HT2.out.cell (m * 3 + 2)
          rw [ztab_wid m hm] at tc
          have hw := zwid_le m
          have im : (m : Int) < 5 := by omega
          have im2 : m < 5 := by omega
          obtain ⟨u, hu⟩ : ∃ u, zwid m = u := ⟨_, rfl⟩
          rw [hu] at tc hw
          have HU := hid hu; clear hu
          by_cases hshort : P + u ≤ n * 8
          · go_wp2_with fail
            refine (eye_get w2 g P n c u A l (by omega) (by omega) (by omega) HBP.out (HA.out.chg HCP.out HNE.out) HNE.out).mono ?_
            rintro e w3 ⟨rfl, hb3, hc3⟩
            have HB3 := hid hb3
            have HC3 := hid (HCP.out.trans hc3 (fun _ _ h => h))
            clear hb3 hc3
            have hxl := numOf_lt (seen l P u)
            rw [seen_len l P u (by rw [HLn.out]; omega)] at hxl
            have hx59 : numOf (seen l P u) < 576460752303423488 := Nat.lt_of_lt_of_le hxl (Nat.le_trans (Nat.pow_le_pow_right (by decide) hw) (by decide))
            have HX := hid (show numOf ((((unp l).drop i).drop (P - i)).take u) = numOf (seen l P u) by unfold seen; rw [List.drop_drop, show i + (P - i) = P by omega])
            clear hxl
            generalize numOf (seen l P u) = x at *
            have HT3 := hid (HT.out.chg HC3.out (by intro e; exact hg e.symm))
            obtain ⟨tr0, tr1, tr2⟩ := ztab_row m hm
            have t0 := HT3.out.cell (m * 3)
            have t1 := HT3.out.cell (m * 3 + 1)
            have t2 := HT3.out.cell (m * 3 + 2)
            rw [tr0] at t0
            rw [tr1] at t1
            rw [tr2] at t2
            clear tr0 tr1 tr2
            have hrow := zcls_row x
            have hidx := zidx_le x
            have hzr : zread ((unp l).drop i) = if zidx x = m then (zunf (x : Int), 0, (P - i) + u) else (0, 4, 0) := by
              unfold zread
              rw [HZ.out]
              simp only
              rw [if_neg (by rw [List.length_drop, HUL.out, HU.out]; omega), HU.out, show m + 1 = P - i by omega, HX.out]
            have HZR := hid hzr; clear hzr
            by_cases hix : zidx x = m
            · rw [if_pos hix] at HZR
              rw [hix] at hrow
              rw [← hrow] at t0 t1 t2
              clear hrow hix hidx
              have CF := fun V hV => hid (zig_fit x V hx59 hV)
              generalize zcls x = cz at *
              obtain ⟨a0, a1, a2⟩ := cz
              simp only at t0 t1 t2 CF
              go_wp2_with fail
              go_region_held3 (fun w' => Below w3.heap.size w3 w' ∧ w'.cell? ⟨0, m * 3, none⟩ = some (.int .i64 (a0 : Int)) ∧ w'.cell? ⟨0, m * 3 + 1, none⟩ = some (.int .i64 (a1 : Int)) ∧ w'.cell? ⟨0, m * 3 + 2, none⟩ = some (.int .i64 (a2 : Int)))
                ((refine sees3 (B := 0) ?_ t0 t1 t2; (repeat (first | exact (‹Below w3.heap.size w3 _ ∧ _ ∧ _›).1 | exact bnil _ | refine bgo' hbk ?_ | refine Below.drew ?_ | refine bnew ?_ _))))
                (first
                  | ((with_reducible refine (CF _ ?_).out.mono ?_); (· exact HT3.out.below (‹Below w3.heap.size w3 _ ∧ _ ∧ _›).1); rintro e w9 ⟨rfl, hbk⟩; dsimp only))
              all_goals
                have HB9 := hid (bgo' hbk (bnil w3).drew)
                clear hbk
                go_wp2_with fail
                refine (unfold_any (x : Int) w9 (by omega) (by omega)).mono ?_
                rintro e w10 ⟨rfl, rfl⟩
                go_wp2
                go_ret2
                rw [HZR.out]
                exact ⟨rfl, ⟨P + u, hshort, HB3.out.below' HB9.out, fun _ => by simp only; omega⟩, HC3.out.trans (Chg.of_below (M := fun x => x = g) HB9.out (fun k h1 h2 => by omega)) (fun _ _ h => h)⟩
            · rw [if_neg hix] at HZR
              have hne := beqF (show ((zcls x).1 : Int) ≠ ((zrow m).1 : Int) by
                rw [hrow]; have := zrow_ne (zidx x) m hidx hm hix; omega)
              clear hrow hix hidx
              have CF := fun V hV => hid (zig_fit x V hx59 hV)
              generalize zcls x = cz at *
              generalize zrow m = dz at *
              obtain ⟨a0, a1, a2⟩ := cz
              obtain ⟨b0, b1, b2⟩ := dz
              simp only at t0 t1 t2 CF hne
              go_wp2_with fail
              go_region_held3 (fun w' => Below w3.heap.size w3 w' ∧ w'.cell? ⟨0, m * 3, none⟩ = some (.int .i64 (b0 : Int)) ∧ w'.cell? ⟨0, m * 3 + 1, none⟩ = some (.int .i64 (b1 : Int)) ∧ w'.cell? ⟨0, m * 3 + 2, none⟩ = some (.int .i64 (b2 : Int)))
                ((refine sees3 (B := 0) ?_ t0 t1 t2; (repeat (first | exact (‹Below w3.heap.size w3 _ ∧ _ ∧ _›).1 | exact bnil _ | refine bgo' hbk ?_ | refine Below.drew ?_ | refine bnew ?_ _))))
                (first
                  | ((with_reducible refine (CF _ ?_).out.mono ?_); (· exact HT3.out.below (‹Below w3.heap.size w3 _ ∧ _ ∧ _›).1); rintro e w9 ⟨rfl, hbk⟩; dsimp only))
              all_goals
                have HB9 := hid (bgo' hbk (bnil w3).drew)
                clear hbk
                go_wp2
                go_ret2
                rw [HZR.out]
                exact ⟨rfl, ⟨P + u, hshort, HB3.out.below' HB9.out, fun h => by simp at h⟩, HC3.out.trans (Chg.of_below (M := fun x => x = g) HB9.out (fun k h1 h2 => by omega)) (fun _ _ h => h)⟩
          · go_wp2_with fail
            refine (eye_none w2 g P n c u A (by omega) (by omega) (by omega) (by omega) HBP.out).mono ?_
            rintro e w3 ⟨rfl, kd, rfl⟩
            go_wp2
            go_ret2
            have hz : zread ((unp l).drop i) = (0, 5, 0) := by
              unfold zread
              rw [HZ.out]
              simp only
              rw [if_pos (by rw [List.length_drop, HUL.out, HU.out]; omega)]
            rw [hz]
            exact ⟨rfl, ⟨P, hP, HBP.out, by simp⟩, HCP.out.drewN _⟩
        · go_wp2
          go_roundw
          case rel => exact ⟨m + 1, by omega, by go_num, by omega, hid (fun j hj => by
            by_cases h : j < m
            · exact HONES.out j h
            · obtain rfl : j = m := by omega
              exact HBIT.out), HB2.out, HC2.out⟩
          case measure => simp [intOf] <;> omega
    · obtain rfl : m = 4 := by omega
      have HBP := HBK; have HCP := HCH
      have HZ := hid (zhead_four _ HONES.out)
      clear HBK HCH
      obtain ⟨P, hPe⟩ : ∃ P, i + 4 = P := ⟨_, rfl⟩
      have HPe : P = i + 4 := by omega
      rw [hPe] at HBP hpos
      clear hPe
      have hP : P ≤ n * 8 := by omega
      have HT2 := hid (HT.out.chg HCP.out (by intro e; exact hg e.symm))
      have tc := HT2.out.cell (4 * 3 + 2)
      rw [ztab_wid 4 hm] at tc
      have hw := zwid_le 4
      obtain ⟨u, hu⟩ : ∃ u, zwid 4 = u := ⟨_, rfl⟩
      rw [hu] at tc hw
      have HU := hid hu; clear hu
      by_cases hshort : P + u ≤ n * 8
      · go_wp2_with fail
        refine (eye_get wr g P n c u A l (by omega) (by omega) (by omega) HBP.out (HA.out.chg HCP.out HNE.out) HNE.out).mono ?_
        rintro e w3 ⟨rfl, hb3, hc3⟩
        have HB3 := hid hb3
        have HC3 := hid (HCP.out.trans hc3 (fun _ _ h => h))
        clear hb3 hc3
        have hxl := numOf_lt (seen l P u)
        rw [seen_len l P u (by rw [HLn.out]; omega)] at hxl
        have hx59 : numOf (seen l P u) < 576460752303423488 := Nat.lt_of_lt_of_le hxl (Nat.le_trans (Nat.pow_le_pow_right (by decide) hw) (by decide))
        have HX := hid (show numOf ((((unp l).drop i).drop (P - i)).take u) = numOf (seen l P u) by unfold seen; rw [List.drop_drop, show i + (P - i) = P by omega])
        clear hxl
        generalize numOf (seen l P u) = x at *
        have HT3 := hid (HT.out.chg HC3.out (by intro e; exact hg e.symm))
        obtain ⟨tr0, tr1, tr2⟩ := ztab_row 4 (Nat.le_refl 4)
        have t0 := HT3.out.cell (4 * 3)
        have t1 := HT3.out.cell (4 * 3 + 1)
        have t2 := HT3.out.cell (4 * 3 + 2)
        rw [tr0] at t0
        rw [tr1] at t1
        rw [tr2] at t2
        clear tr0 tr1 tr2
        have hrow := zcls_row x
        have hidx := zidx_le x
        have hzr : zread ((unp l).drop i) = if zidx x = 4 then (zunf (x : Int), 0, (P - i) + u) else (0, 4, 0) := by
          unfold zread
          rw [HZ.out]
          simp only
          rw [if_neg (by rw [List.length_drop, HUL.out, HU.out]; omega), HU.out, show 4 = P - i by omega, HX.out]
        have HZR := hid hzr; clear hzr
        by_cases hix : zidx x = 4
        · rw [if_pos hix] at HZR
          rw [hix] at hrow
          rw [← hrow] at t0 t1 t2
          clear hrow hix hidx
          have CF := fun V hV => hid (zig_fit x V hx59 hV)
          generalize zcls x = cz at *
          obtain ⟨a0, a1, a2⟩ := cz
          simp only at t0 t1 t2 CF
          go_wp2_with fail
          go_region_held3 (fun w' => Below w3.heap.size w3 w' ∧ w'.cell? ⟨0, 4 * 3, none⟩ = some (.int .i64 (a0 : Int)) ∧ w'.cell? ⟨0, 4 * 3 + 1, none⟩ = some (.int .i64 (a1 : Int)) ∧ w'.cell? ⟨0, 4 * 3 + 2, none⟩ = some (.int .i64 (a2 : Int)))
            ((refine sees3 (B := 0) ?_ t0 t1 t2; (repeat (first | exact (‹Below w3.heap.size w3 _ ∧ _ ∧ _›).1 | exact bnil _ | refine bgo' hbk ?_ | refine Below.drew ?_ | refine bnew ?_ _))))
            (first
              | ((with_reducible refine (CF _ ?_).out.mono ?_); (· exact HT3.out.below (‹Below w3.heap.size w3 _ ∧ _ ∧ _›).1); rintro e w9 ⟨rfl, hbk⟩; dsimp only))
          all_goals
            have HB9 := hid (bgo' hbk (bnil w3).drew)
            clear hbk
            go_wp2_with fail
            refine (unfold_any (x : Int) w9 (by omega) (by omega)).mono ?_
            rintro e w10 ⟨rfl, rfl⟩
            go_wp2
            go_ret2
            rw [HZR.out]
            exact ⟨rfl, ⟨P + u, hshort, HB3.out.below' HB9.out, fun _ => by simp only; omega⟩, HC3.out.trans (Chg.of_below (M := fun x => x = g) HB9.out (fun k h1 h2 => by omega)) (fun _ _ h => h)⟩
        · rw [if_neg hix] at HZR
          have hne := beqF (show ((zcls x).1 : Int) ≠ ((zrow 4).1 : Int) by
            rw [hrow]; have := zrow_ne (zidx x) 4 hidx (Nat.le_refl 4) hix; omega)
          clear hrow hix hidx
          have CF := fun V hV => hid (zig_fit x V hx59 hV)
          generalize zcls x = cz at *
          generalize zrow 4 = dz at *
          obtain ⟨a0, a1, a2⟩ := cz
          obtain ⟨b0, b1, b2⟩ := dz
          simp only at t0 t1 t2 CF hne
          go_wp2_with fail
          go_region_held3 (fun w' => Below w3.heap.size w3 w' ∧ w'.cell? ⟨0, 4 * 3, none⟩ = some (.int .i64 (b0 : Int)) ∧ w'.cell? ⟨0, 4 * 3 + 1, none⟩ = some (.int .i64 (b1 : Int)) ∧ w'.cell? ⟨0, 4 * 3 + 2, none⟩ = some (.int .i64 (b2 : Int)))
            ((refine sees3 (B := 0) ?_ t0 t1 t2; (repeat (first | exact (‹Below w3.heap.size w3 _ ∧ _ ∧ _›).1 | exact bnil _ | refine bgo' hbk ?_ | refine Below.drew ?_ | refine bnew ?_ _))))
            (first
              | ((with_reducible refine (CF _ ?_).out.mono ?_); (· exact HT3.out.below (‹Below w3.heap.size w3 _ ∧ _ ∧ _›).1); rintro e w9 ⟨rfl, hbk⟩; dsimp only))
          all_goals
            have HB9 := hid (bgo' hbk (bnil w3).drew)
            clear hbk
            go_wp2
            go_ret2
            rw [HZR.out]
            exact ⟨rfl, ⟨P + u, hshort, HB3.out.below' HB9.out, fun h => by simp at h⟩, HC3.out.trans (Chg.of_below (M := fun x => x = g) HB9.out (fun k h1 h2 => by omega)) (fun _ _ h => h)⟩
      · go_wp2_with fail
        refine (eye_none wr g P n c u A (by omega) (by omega) (by omega) (by omega) HBP.out).mono ?_
        rintro e w3 ⟨rfl, kd, rfl⟩
        go_wp2
        go_ret2
        have hz : zread ((unp l).drop i) = (0, 5, 0) := by
          unfold zread
          rw [HZ.out]
          simp only
          rw [if_pos (by rw [List.length_drop, HUL.out, HU.out]; omega)]
        rw [hz]
        exact ⟨rfl, ⟨P, hP, HBP.out, by simp⟩, HCP.out.drewN _⟩
end Go.Proofs.YtpoaomjpbjcmbaaDoor
