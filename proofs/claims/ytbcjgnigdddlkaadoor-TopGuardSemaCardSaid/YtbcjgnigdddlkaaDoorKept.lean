/-
  barographtop.kept: its walk: true where the last word is as many as the second calls that have ended, and no more than one is under way.
-/
import Derived.Test.YtbcjgnigdddlkaaDoorRunSure
import Derived.Test.YtbcjgnigdddlkaaDoorRan
import Derived.Test.YtbcjgnigdddlkaaDoorGuardCnt
namespace Go.Proofs.YtbcjgnigdddlkaaDoor
open Go.RowKit
set_option linter.unusedVariables false

def oneM : Mach := ⟨[], [[]], [[⟨0, []⟩]]⟩
theorem one_play : (play oneM [0]).evs.length = 2 := by decide +kernel
theorem sl0 (w : World) (sz : Nat) : Sl w sz none 0 [] := ⟨by simp, fun h => absurd h (by decide)⟩
theorem one_at (w : World) (a b c d : Nat) (h0 : Blk w a 28 #[.slice none 0 0]) (h1 : Blk w b 49 #[.int .i64 0, .slice none 0 0]) (h2 : Blk w c 50 #[.slice (some ⟨b, 0, none⟩) 1 1]) (h3 : Blk w d 3 #[.int .i64 0]) :
    MachAt w (some ⟨a, 0, none⟩) 1 (some ⟨c, 0, none⟩) 1 oneM ∧ Sl w 1 none 0 (ints oneM.words) ∧ Sl w 1 (some ⟨d, 0, none⟩) 1 (ints ([0].map fun x : Nat => (x : Int))) := by
  refine ⟨⟨rfl, rfl, ⟨_, rfl, h0.sl 1 1 rfl, ?_⟩, ⟨_, rfl, h2.sl 1 1 rfl, ?_⟩⟩, sl0 _ _, h3.sl 1 1 rfl⟩
  · intro i code hi
    match i, hi with
    | 0, hi =>
      injection hi with hi; subst hi
      exact ⟨_, 0, 0, rfl, by decide, rfl, (fun o ho => by cases ho), sl0 _ _⟩
    | i + 1, hi => simp [oneM] at hi
  · intro j calls hj
    match j, hj with
    | 0, hj =>
      injection hj with hj; subst hj
      refine ⟨_, 1, 1, rfl, rfl, by decide, [.slice none 0 0], rfl, h1.sl 2 1 rfl, ?_⟩
      intro k x v hk hv
      match k, hk, hv with
      | 0, hk, hv =>
        injection hk with hk; subst hk
        injection hv with hv; subst hv
        exact ⟨by decide, _, 0, 0, rfl, by decide, sl0 _ _⟩
      | k + 1, hk, _ => simp at hk
    | j + 1, hj => simp [oneM] at hj
theorem one_at' (w : World) : 
    MachAt ((((w.alloc (.cells #[.slice none 0 0] 28)).alloc (.cells #[.int .i64 0, .slice none 0 0] 49)).alloc (.cells #[.slice (some ⟨w.heap.size + 1, 0, none⟩) 1 1] 50)).alloc (.cells #[.int .i64 0] 3)) (some ⟨w.heap.size, 0, none⟩) 1 (some ⟨w.heap.size + 1 + 1, 0, none⟩) 1 oneM ∧
    Sl ((((w.alloc (.cells #[.slice none 0 0] 28)).alloc (.cells #[.int .i64 0, .slice none 0 0] 49)).alloc (.cells #[.slice (some ⟨w.heap.size + 1, 0, none⟩) 1 1] 50)).alloc (.cells #[.int .i64 0] 3)) 1 none 0 (ints oneM.words) ∧
    Sl ((((w.alloc (.cells #[.slice none 0 0] 28)).alloc (.cells #[.int .i64 0, .slice none 0 0] 49)).alloc (.cells #[.slice (some ⟨w.heap.size + 1, 0, none⟩) 1 1] 50)).alloc (.cells #[.int .i64 0] 3)) 1 (some ⟨w.heap.size + 1 + 1 + 1, 0, none⟩) 1 (ints ([0].map fun x : Nat => (x : Int))) :=
  one_at _ _ _ _ _ (((((blkN _ _ _ _ rfl).alloc _).alloc _).alloc _)) ((((blkN _ _ _ _ (by simp)).alloc _).alloc _)) (((blkN _ _ _ _ (by simp)).alloc _)) ((blkN _ _ _ _ (by simp)))
set_option maxHeartbeats 4000000 in
set_option maxRecDepth 100000 in
theorem kept_of (Aw Ac At As : Option Addr) (nw cw nc cc nt ct ns cs : Nat) (m : Mach) (l : List Nat) (w : World) (hnw : nw ≤ 200) (hnc : nc ≤ 8) (hnt : nt ≤ 4) (hns : ns ≤ 6000) (hncs : ns ≤ cs) (hT : STab w) (hm : MachAt w Ac nc At nt m) (hw : Sl w 1 Aw nw (ints m.words))
    (hl : Sl w 1 As ns (ints (l.map fun x : Nat => (x : Int)))) (hlt : ∀ x ∈ l, x < nt) (hnw0 : 0 < nw) (hcall : ∀ e ∈ (play m l).evs, e.call ≤ 1000) (hlen : (play m l).words.length = nw) (hx : (play m l).words[nw - 1]? = some (kE (play m l).evs : Int)) (hb : kB (play m l).evs ≤ kE (play m l).evs + 1) :
    Calls Tryd.prog 22 #[.agg #[.slice Aw nw cw, .slice Ac nc cc, .slice At nt ct], .slice As ns cs] w fun e w' => e = .returned (.bool true) ∧ Below w.heap.size w w' := by
  have HM := hid hm; have HW := hid hw; have HL := hid hl; have HLT := hid hlt; have HT := hid hT; have HLEN := hid hlen; have HXX := hid hx; have HBB := hid hb; have HCALL := hid hcall
  clear hm hw hl hlt hT hlen hx hb hcall
  obtain ⟨X, hX⟩ : ∃ X, w.heap.size = X := ⟨_, rfl⟩
  have BN := hid (bnew (bnil w) (.cells #[.slice Aw nw cw, .slice Ac nc cc, .slice At nt ct] 34))
  have HXB := hid (blkN w 34 #[.slice Aw nw cw, .slice Ac nc cc, .slice At nt ct] X hX)
  go_enter Tryd.func22, Tryd.ntmps22
  go_upto_region 1 with fail
  generalize World.alloc w _ = w2 at *
  have HXW := hid hX
  clear hX
  obtain ⟨xs, hxs⟩ : ∃ xs, (l.map fun x : Nat => (x : Int)) = xs := ⟨_, rfl⟩
  have hyl : xs.length = ns := by rw [← hxs]; have := HL.out.leni; exact this
  have HXL := hid hyl
  have HSL := hid (show Sl w2 1 As ns (xs.flatMap gI) by rw [← hxs]; exact HL.out.below BN.out)
  have HIS := hid (show ∀ (w' : World) (B c : Nat) (A' : Option Addr), w'.ownsRow B 3 1 (.slice A' xs.length c) xs.length (xs.flatMap gI) → Sl w' 1 A' xs.length (ints (l.map fun x : Nat => (x : Int))) from fun w' B c A' h => by have h2 := Sl.own h; rw [← hxs] at h2 ⊢; exact h2)
  have HYS := hid (show ∀ y : List Int, [] ++ y = y from fun y => rfl)
  clear hxs hyl
  have x0 : w2.cell? ⟨X, 0, none⟩ = some (.slice Aw nw cw) := HXB.out.cell 0
  have x1 : w2.cell? ⟨X, 1, none⟩ = some (.slice Ac nc cc) := HXB.out.cell 1
  have x2 : w2.cell? ⟨X, 2, none⟩ = some (.slice At nt ct) := HXB.out.cell 2
  have ltX := HXB.out.lt
  have HT2 := hid (HT.out.below BN.out)
  have HM2 := hid (HM.out.below BN.out)
  have HW2 := hid (HW.out.below BN.out)
  go_region_held3 (fun w' => Below w2.heap.size w2 w' ∧ w'.cell? ⟨X, 0, none⟩ = some (.slice Aw nw cw) ∧ w'.cell? ⟨X, 1, none⟩ = some (.slice Ac nc cc) ∧ w'.cell? ⟨X, 2, none⟩ = some (.slice At nt ct))
    ((refine sees3 ?_ x0 x1 x2; (repeat (first | assumption | exact (‹Below w2.heap.size w2 _ ∧ _ ∧ _›).1 | exact bnil _ | refine Below.drew ?_ | refine bnew ?_ _))))
    (first
      | (refine step_appB elmI gI_one rfl (.const (.slice none 0 0)) (.tmp 17) rfl (.slice none 0 0) [] rfl (own0 _ w2.heap.size _ 1) xs xs (hid (HYS.out xs)) rfl (Sl.drew HSL.out) HXL.out (by rw [HXL.out]; simp only [maxLen]; omega) (by rw [HXL.out]; omega) (Nat.le_refl _) ?_; intro E8 c8 w8 hc8 hc9 HN8 HG8; have HB8 : Below w2.heap.size w2 w8 := bgo (bnil w2).drew (grown_nil HG8.out))
      | (go_at_call 42; ((with_reducible refine (run_play _ _ _ _ nw cw nc cc nt ct xs.length c8 m l w8 hnw hnc hnt (by rw [HXL.out]; omega) (HT2.out.below HB8) (HM2.out.below HB8) (HW2.out.below HB8) (HIS.out _ _ _ _ HN8.out) HLT.out).mono ?_); rintro e w9 hp9; obtain ⟨ev9, wv9, es9, rfl, HA9, HE9, HT9, HW9, b9⟩ := hp9; have HB9 := bgo HB8 b9)))
  all_goals
    obtain ⟨A9, c9, rfl, hn9, hn9'⟩ := own_form HA9
    have HW9 : w9.ownsRow w8.heap.size 3 1 wv9 nw ((play m l).words.flatMap gI) := by have h : w9.ownsRow w8.heap.size 3 1 wv9 (play m l).words.length ((play m l).words.flatMap gI) := HW9; rwa [HLEN.out] at h
    obtain ⟨AW9, cW9, rfl, hnW9, hnW9'⟩ := own_form HW9
    have hsz8 := HB8.size
    have HEA := hid (own_lower HA9 (show w2.heap.size ≤ w8.heap.size from hsz8))
    have HEW := hid (own_lower HW9 (show w2.heap.size ≤ w8.heap.size from hsz8))
    have HEE := hid HE9
    have B9 := hid (bgo BN.out HB9)
    have HB9' := hid HB9
    have HT9' := hid (HT2.out.below HB9)
    have hmost := prun_most m l 0 (pinit m)
    have hel := evs_len' HE9
    have hpl : (play m l).evs.length ≤ 2 * ns := by
      have h2 : (pinit m).evs.length = 0 := rfl
      have h3 : l.length = ns := by have := HL.out.leni; simpa using this
      unfold play; omega
    have x0 := cell_below HB9 x0
    have ltX := Nat.lt_of_lt_of_le ltX HB9.size
    clear HN8 HG8 HB8 HA9 HE9 HT9 HW9 b9 HB9 hc8 hc9 HIS HSL HXL HYS x1 x2 hmost hsz8
    obtain ⟨L, hL⟩ : ∃ L, es9.length = L := ⟨_, rfl⟩
    rw [hL] at HEA hn9 hel ⊢
    have HLL := hid hL
    have hL2 : L ≤ 12000 := by omega
    clear hL hel hpl
    unfold maxLen at hn9' hnW9'
    have HKE := hid (fun k => Nat.le_trans (kE_le ((play m l).evs.take k)) (List.length_take_le k _))
    have HKB := hid (fun k => Nat.le_trans (kB_le ((play m l).evs.take k)) (List.length_take_le k _))
    go_wp2_with fail
    go_loopw [8, 9, 10] (fun u v i wr => ∃ (k : Nat), k ≤ L ∧ i = .int .i64 k ∧ u = .int .i64 (kE ((play m l).evs.take k) : Int) ∧ v = .int .i64 (kB ((play m l).evs.take k) : Int) ∧ Hid (Below w9.heap.size w9 wr)) (fun _ _ i _ => L - (intOf i).toNat)
    case atStart => exact ⟨0, Nat.zero_le _, rfl, rfl, rfl, hid (bnil _)⟩
    case round =>
      obtain ⟨k, hk, rfl, rfl, rfl, BR⟩ := hrel
      by_cases hlt : k < L
      · have j1 : (k : Int) < (L : Int) := by omega
        obtain ⟨y, hy1⟩ : ∃ y, es9[k]? = some y := ⟨_, List.getElem?_eq_getElem (by rw [HLL.out]; exact hlt)⟩
        obtain ⟨b9, rfl, vb, v0, v1, v2, v3, v4, v5⟩ := evs_at HEA.out hy1 (by omega)
        have ub : b9 < wr.heap.size := Nat.lt_of_lt_of_le vb BR.out.size
        have u2 := cell_below BR.out v2
        have u3 := cell_below BR.out v3
        have hyk : (play m l).evs[k]? = some y.1 := by rw [← HEE.out, List.getElem?_map, hy1]; rfl
        have hcl := HCALL.out y.1 (List.mem_of_getElem? hyk)
        have hke := kE_next hyk
        have hkb := kB_next hyk
        have hkel := HKE.out k
        have hkbl := HKB.out k
        clear hy1 hyk v0 v1 v2 v3 v4 v5
        obtain ⟨r, hr⟩ : ∃ r, y.1.call % 3 = r := ⟨_, rfl⟩
        have em : (y.1.call : Int).tmod 3 = (r : Int) := by rw [Int.tmod_eq_emod_of_nonneg (by omega), ← hr]; omega
        rw [hr] at hke hkb
        clear hr
        by_cases hr1 : r = 1
        · subst hr1
          cases hf : y.1.fin with
          | false =>
            rw [hf] at hke hkb u3
            have hke : kE ((play m l).evs.take (k + 1)) = kE ((play m l).evs.take k) := by rw [hke]; rfl
            have hkb : kB ((play m l).evs.take (k + 1)) = kB ((play m l).evs.take k) + 1 := by rw [hkb]; rfl
            have HK1 := hid hke; have HK2 := hid hkb
            clear hke hkb
            go_wp2_with fail
            go_roundw
            · exact ⟨k + 1, by omega, by go_num, by rw [HK1.out], by rw [HK2.out]; go_num, BR⟩
            · simp only [intOf]; omega
          | true =>
            rw [hf] at hke hkb u3
            have hke : kE ((play m l).evs.take (k + 1)) = kE ((play m l).evs.take k) + 1 := by rw [hke]; rfl
            have hkb : kB ((play m l).evs.take (k + 1)) = kB ((play m l).evs.take k) := by rw [hkb]; rfl
            have HK1 := hid hke; have HK2 := hid hkb
            clear hke hkb
            go_wp2_with fail
            go_roundw
            · exact ⟨k + 1, by omega, by go_num, by rw [HK1.out]; go_num, by rw [HK2.out], BR⟩
            · simp only [intOf]; omega
        · have e1 : ¬ ((r : Int) = 1) := by omega
          have hb1 : (r == 1) = false := by simpa using hr1
          rw [hb1] at hke hkb
          have hke : kE ((play m l).evs.take (k + 1)) = kE ((play m l).evs.take k) := by rw [hke]; rfl
          have hkb : kB ((play m l).evs.take (k + 1)) = kB ((play m l).evs.take k) := by rw [hkb]; rfl
          have HK1 := hid hke; have HK2 := hid hkb
          clear hke hkb hb1
          go_wp2_with fail
          go_roundw
          · exact ⟨k + 1, by omega, by go_num, by rw [HK1.out], by rw [HK2.out], BR⟩
          · simp only [intOf]; omega
      · obtain rfl : k = L := by omega
        have j1 : ¬ (k : Int) < (k : Int) := by omega
        have E := hid (show (play m l).evs.take k = (play m l).evs from List.take_of_length_le (by rw [← HEE.out, List.length_map, HLL.out]; exact Nat.le_refl _))
        rw [E.out]
        obtain ⟨bw, cw', hwE, _, hwc⟩ := own_at HEW.out hnw0
        injection hwE with hwE1 _ _
        subst hwE1
        have wc := hwc ((nw - 1) * 1 + 0) _ (by rw [flatMap_at gI 1 (fun _ => rfl) _ (nw - 1) 0 _ HXX.out (by decide)]; rfl)
        rw [Nat.mul_one, Nat.add_zero] at wc
        have wc := cell_below BR.out wc
        have wlt := World.block_lt_of_cell? wr _ wc
        have i1 : (0 : Int) ≤ (nw : Int) - 1 := by omega
        have i2 : (nw : Int) - 1 < (nw : Int) := by omega
        have i3 : ((nw : Int) - 1).toNat = nw - 1 := by omega
        have hke0 := HKE.out k; have hkb0 := HKB.out k
        rw [E.out] at hke0 hkb0
        obtain ⟨ke, hke⟩ : ∃ ke, kE (play m l).evs = ke := ⟨_, rfl⟩
        obtain ⟨kb, hkb⟩ : ∃ kb, kB (play m l).evs = kb := ⟨_, rfl⟩
        have hbb := HBB.out
        rw [hke] at wc hke0 hbb ⊢
        rw [hkb] at hkb0 hbb ⊢
        clear hwc hke hkb
        go_wp2_with fail
        obtain ⟨k1, k2, k3⟩ := one_at' wr
        have b4 := bnew (bnew (bnew (bnew (bnil wr) (.cells #[.slice none 0 0] 28)) (.cells #[.int .i64 0, .slice none 0 0] 49)) (.cells #[.slice (some ⟨wr.heap.size + 1, 0, none⟩) 1 1] 50)) (.cells #[.int .i64 0] 3)
        refine (run_play _ _ _ _ 0 0 1 1 1 1 1 1 oneM [0] _ (by decide) (by decide) (by decide) (by decide) (HT9'.out.below (bgo BR.out b4)) k1 k2 k3 (by simp)).mono ?_
        have B4 := hid b4
        clear k1 k2 k3 b4
        generalize World.alloc (World.alloc (World.alloc (World.alloc wr _) _) _) _ = w7 at *
        rintro e w8 hp
        obtain ⟨ev, wv, es, rfl, h1, h2, _, h3, b8⟩ := hp
        have hl : es.length = 2 := by have h := one_play; rw [← h2, List.length_map] at h; exact h
        rw [hl] at h1
        obtain ⟨A3, c3, rfl, hn3, _⟩ := own_form h1
        have B8 := hid (bgo (bgo BR.out B4.out) b8)
        clear h1 h2 h3 b8
        have i5 : (kb : Int) - (ke : Int) ≤ 1 := by omega
        go_wp2
        go_ret
        exact ⟨rfl, bgo (bgo BN.out HB9'.out) B8.out⟩
end Go.Proofs.YtbcjgnigdddlkaaDoor
