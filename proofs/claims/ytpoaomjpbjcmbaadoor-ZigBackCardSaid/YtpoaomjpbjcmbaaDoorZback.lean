/-
  ZigBack: its walk.
-/
import Derived.Test.YtpoaomjpbjcmbaaDoorZigSum
import Derived.Test.YtpoaomjpbjcmbaaDoorZdec
namespace Go.Proofs.YtpoaomjpbjcmbaaDoor
open Go.RowKit
set_option linter.unusedVariables false
theorem pack_cut (bs : List Bool) (k : Nat) (hk : k < (pack bs).length) : ∃ r, r ≠ [] ∧ bs = unp ((pack bs).take k) ++ r := by
  have hpl := pack_len bs
  have hup := unp_pack bs
  have hu : unp (pack bs) = unp ((pack bs).take k) ++ unp ((pack bs).drop k) := by rw [← unp_append, List.take_append_drop]
  have hkl := unp_len ((pack bs).take k)
  rw [List.length_take, Nat.min_eq_left (by omega)] at hkl
  rw [hup] at hu
  generalize unp ((pack bs).take k) = cs at *
  refine ⟨bs.drop cs.length, ?_, ?_⟩
  · intro e; have := congrArg List.length e; rw [List.length_drop] at this; simp at this; omega
  · have e2 := congrArg (List.take cs.length) hu
    rw [List.take_left' rfl, List.take_append_of_le_length (by omega)] at e2
    conv => lhs; rw [← List.take_append_drop cs.length bs]
    rw [e2]
theorem zig_decode_ok (A : Option Addr) (n c m : Nat) (b : List UInt8) (l : List Int) (w : World) (hn : n ≤ 1000000000000000) (hl : ∀ x ∈ l, ZSm x) (hm : l.length = m) (hm2 : m ≤ 240)
    (hb : ∃ rest, unp b = zcodes' l ++ rest) (hA : Sl w 1 A n (byts b)) (ht : ZTab w) :
    Calls Tryd.prog 23 #[.slice A n c, .int .i64 (m : Int)] w fun e w' => ∃ v, e = .returned (.tuple #[v, .int .i64 0]) ∧ Ow w w' 3 1 gI v l :=
  (zig_decode A n c m b l true w hn hl hm hm2 hb hA ht).mono fun e w' h => h
theorem zig_decode_cut (A : Option Addr) (n c m : Nat) (b : List UInt8) (l : List Int) (w : World) (hn : n ≤ 1000000000000000) (hl : ∀ x ∈ l, ZSm x) (hm : l.length = m) (hm2 : m ≤ 240)
    (hb : ∃ r, r ≠ [] ∧ zcodes' l = unp b ++ r) (hA : Sl w 1 A n (byts b)) (ht : ZTab w) :
    Calls Tryd.prog 23 #[.slice A n c, .int .i64 (m : Int)] w fun e w' => ∃ v, e = .returned (.tuple #[v, .int .i64 5]) ∧ Ow w w' 3 1 gI v [] :=
  (zig_decode A n c m b l false w hn hl hm hm2 hb hA ht).mono fun e w' h => h
set_option maxRecDepth 100000 in
set_option maxHeartbeats 4000000 in
theorem law_zigBack (A : Option Addr) (n c : Nat) (l : List Int) (a : Int) (C : Option Addr) (p q : Nat) (ms : List UInt8) (w : World)
    (hn : n ≤ c) (hc : c ≤ maxLen) (_ : c * 8 ≤ 140737488351232) (hA : Sl w 1 A n (ints l)) (hls : ∀ x ∈ l, -9223372036854775808 ≤ x ∧ x ≤ 9223372036854775807)
    (a0 : -9223372036854775808 ≤ a) (a1 : a ≤ 9223372036854775807)
    (hp : p ≤ q) (hq : q ≤ maxLen) (hq2 : q * 1 ≤ 140737488351232) (hC : Sl w 1 C p (byts ms)) (ht : ZTab w) :
    Calls Tryd.prog 6 #[.slice A n c, .int .i64 a, .slice C p q] w fun e w' => e = .returned (.bool true) ∧ Below w.heap.size w w' := by
  have H := hid hA; have HL := hid hls; have HT := hid ht; have HC := hid hC; clear hA hls ht hC
  have HLn := hid H.out.leni
  go_enter Tryd.func6, Tryd.ntmps6
  go_wp2
  go_loopw [7, 8] (fun own i wr => ∃ k : Nat, k ≤ n ∧ k ≤ 60 ∧ i = .int .i64 (k : Int) ∧ Ow w wr 3 1 gI own (smalls (l.take k))) (fun _ i _ => n - (intOf i).toNat)
  case atStart => exact ⟨0, by omega, by omega, rfl, Ow.nil w _ _ _⟩
  case round =>
    obtain ⟨k, hk, hk2, rfl, hO⟩ := hrel
    have HO := hid hO; clear hO
    by_cases hlt12 : k < n ∧ k < 60
    · obtain ⟨hlt, hlt2⟩ := hlt12
      · obtain ⟨ad, x, rfl, hx, c0⟩ := (H.out.below HO.out.below).ati hlt
        obtain ⟨x0, x1⟩ := HL.out x (List.mem_of_getElem? hx)
        obtain ⟨y, hy⟩ : ∃ y, smalls (l.take k) ++ [x / 32] = y := ⟨_, rfl⟩
        have HYE := hid (show smalls (l.take (k + 1)) = y by rw [take_next hx, ← hy]; simp [smalls])
        have hyl : y.length = k + 1 := by rw [← hy]; simp [smalls]; have := HLn.out; omega
        have hyl2 : y.length ≤ 60 := by omega
        have HY := hid hy; clear hy hx hyl
        go_wp2_with fail
        refine (small_law x wr x0 x1).mono ?_
        rintro e w2 ⟨rfl, rfl⟩
        generalize x / 32 = q at *
        go_wp2_with (at_builtin; refine wpList_appY elmI gI_one rfl (.tmp 27) (.tmp 33) rfl u7 (smalls (l.take k)) rfl (HO.out.alloc _) [q] y HY rfl (Sl.fresh wr #[.int .i64 q] 3 1 1 rfl) rfl (by simp only [maxLen]; omega) (by omega) ?_; intro A2 c2 w3 hn2 hc2 HO2 _ _)
        go_roundw
        case rel => exact ⟨k + 1, by omega, by omega, by go_num, by rw [HYE.out]; exact HO2.out⟩
        case measure => simp [intOf]; omega
    · have hend : ¬ (k < n) ∨ (k < n ∧ ¬ k < 60) := by omega
      have HY := hid (smalls_ok (l.take k) fun x hx => HL.out x (List.mem_of_mem_take hx))
      have HYN := hid (show (smalls (l.take k)).length = k by unfold smalls; rw [List.length_map, List.length_take]; have := HLn.out; omega)
      obtain ⟨y, hy⟩ : ∃ y, smalls (l.take k) = y := ⟨_, rfl⟩
      rw [hy] at HY HYN HO
      obtain ⟨A1, c1, rfl, hn1, hc1⟩ := HO.out.form
      rw [HYN.out] at hn1 HO ⊢
      clear hy
      have hzl := zcodes_len y
      rw [HYN.out] at hzl
      obtain ⟨P, hP⟩ : ∃ P, pack (zcodes y) = P := ⟨_, rfl⟩
      have hpl : P.length = ((zcodes y).length + 7) / 8 := by rw [← hP, pack_len]
      have HP := hid hP
      have HCUT := hid (show ∀ j, j < P.length → ∃ r, r ≠ [] ∧ zcodes y = unp (P.take j) ++ r by intro j hj; rw [← hP] at hj ⊢; exact pack_cut _ j hj)
      have HPOS := hid (show k ≠ 0 → 0 < P.length by
        intro h0
        rw [hpl]
        have h1 : 1 ≤ (zcodes y).length := by
          obtain ⟨x, t, rfl⟩ : ∃ x t, y = x :: t := by
            cases y with
            | nil => have := HYN.out; simp at this; omega
            | cons x t => exact ⟨x, t, rfl⟩
          have := zcode_pos x
          show 1 ≤ (zcode x ++ zcodes t).length
          rw [List.length_append]; omega
        omega)
      obtain ⟨L, hL⟩ : ∃ L, P.length = L := ⟨_, rfl⟩
      have hL480 : L ≤ 480 := by omega
      obtain ⟨P2, hP2⟩ : ∃ P2, P ++ ms = P2 := ⟨_, rfl⟩
      have hms := HC.out.lenb
      have hp2l : P2.length = L + p := by rw [← hP2, List.length_append, hL, hms]
      have HDEC := hid (show ∃ rest, unp P2 = zcodes' y ++ rest from ⟨_, by rw [← hP2, unp_append, ← hP, unp_pack, List.append_assoc]; rfl⟩)
      have HP2 := hid hP2; have HLP := hid hL
      rw [hL] at HCUT HPOS
      clear hpl hP hP2 hzl
      have HTr := hid (HT.out.below HO.out.below)
      have HCr := hid (HC.out.below HO.out.below)
      have hxx : ¬ (k < n) ∨ (k < n ∧ ¬ k < 60) := hend
      unfold maxLen at *
      rcases hend with hend | ⟨hend, hend2⟩
      all_goals
        go_wp2_with fail
        refine (zig_encode _ _ _ y wr (by omega) HO.out.sl HY.out HTr.out).mono ?_
        rintro e w5 ⟨v5, rfl, ho5⟩
        rw [HP.out] at ho5
        obtain ⟨A5, c5, rfl, hn5, hc5⟩ := ho5.form
        rw [hL] at hn5 ho5 ⊢
        have HO5 := hid ho5
        have HT5 := hid (HTr.out.below ho5.below)
        have HC5 := hid (HCr.out.below ho5.below)
        clear ho5
        go_wp2_with (first
          | (at_builtin; refine wpList_appY elmB gB_one rfl (.const (.slice none 0 0)) (.tmp 41) rfl (.slice none 0 0) [] rfl (Ow.nil _ _ _ _) P P (hid (List.nil_append _)) rfl HO5.out.sl hL (by simp only [maxLen]; omega) (by omega) ?_; intro A6 c6 w6 _ _ HN1 _ _; rw [hL] at HN1)
          | (at_builtin; refine wpList_appY elmB gB_one rfl (.tmp 42) (.tmp 43) rfl (.slice A6 _ c6) P rfl HN1.out ms P2 HP2 rfl (HC5.out.below HN1.out.below) hms (by simp only [maxLen]; omega) (by omega) ?_; intro A7 c7 w7 _ _ HN2 _ _))
        rw [hp2l] at HN2
        refine (zig_decode_ok A7 (L + p) c7 k P2 y w7 (by omega) HY.out HYN.out (by omega) HDEC.out HN2.out.sl (HT5.out.below HN2.out.below)).mono ?_
        rintro e w8 ⟨v8, rfl, ho8⟩
        obtain ⟨A8, c8, rfl, hn8, hc8⟩ := ho8.form
        rw [HYN.out] at ho8 hn8 ⊢
        have HO8 := hid ho8; clear ho8
        have HS1 := hid (HO.out.step (bgo HO5.out.below (bgo HN2.out.below HO8.out.below)))
        go_wp2_with fail
        refine (same_ints A8 A1 k _ _ y w8 (by omega) HO8.out.sl HS1.out.sl).mono ?_
        rintro e w9 ⟨rfl, hb9⟩
        have HB9 := hid hb9; clear hb9
        have HT9 := hid (HTr.out.below (bgo HO5.out.below (bgo HN2.out.below (bgo HO8.out.below HB9.out))))
        go_wp2_with fail
        refine (zig_encode _ _ _ [1] _ (by omega) (Sl.fresh w9 #[.int .i64 1] 3 1 1 rfl) (by intro x hx; simp at hx; subst hx; exact ⟨by decide, by decide⟩) (HT9.out.below (bnew (bnil _) _))).mono ?_
        rintro e w10 ⟨v10, rfl, ho10⟩
        rw [show pack (zcodes [1]) = [130] by decide] at ho10
        obtain ⟨A10, c10, rfl, hn10, hc10⟩ := ho10.form
        have HB10 := hid (bgo (bnew (bnil w9) _) ho10.below); clear ho10
        have HSTEP := hid (bgo HO5.out.below (bgo HN2.out.below (bgo HO8.out.below (bgo HB9.out HB10.out))))
        by_cases hk0 : k = 0
        · subst hk0
          go_wp2
          go_ret
          exact ⟨rfl, bgo HO.out.below HSTEP.out⟩
        · have hLp := HPOS.out hk0
          have hk1 : ((k : Int) == 0) = false := by simp; omega
          have i5 : (0 : Int) < (L : Int) := by omega
          have i6 : decide ((0 : Int) < (L : Int)) = true := decide_eq_true i5
          clear hk0
          go_wp2_with fail
          refine (picked a (L : Int) w10 (by omega) a0 a1 (by omega)).mono ?_
          rintro e w10 ⟨rfl, rfl⟩
          have hpk := pk_lt a (L : Int) (by omega)
          generalize pk a (L : Int) = j at *
          have hjL : j < L := by omega
          have HSJ := hid ((HO5.out.step (bgo HN2.out.below (bgo HO8.out.below (bgo HB9.out HB10.out)))).sl.preB (k := j) (by omega))
          have hj1 : (P.take j).length = j := by rw [List.length_take, hL]; omega
          clear hpk
          have hjc : (j : Int) ≤ (c5 : Int) := by omega
          go_wp2_with fail
          refine (zig_decode_cut A5 j c5 k (P.take j) y w10 (by omega) HY.out HYN.out (by omega) (HCUT.out j hjL) HSJ.out (HTr.out.below HSTEP.out)).mono ?_
          rintro e w11 ⟨v11, rfl, ho11⟩
          have HB11 := hid (bgo HO.out.below (bgo HSTEP.out ho11.below)); clear ho11
          go_wp2
          go_ret
          exact ⟨rfl, HB11.out⟩
end Go.Proofs.YtpoaomjpbjcmbaaDoor
