/-
  ChunkBack, ChunkFixed: their walks.
-/
import Derived.Test.YtpoaomjpbjcmbaaDoorCdec
namespace Go.Proofs.YtpoaomjpbjcmbaaDoor
open Go.RowKit
set_option linter.unusedVariables false
theorem pack_cutC (bs : List Bool) (k : Nat) (hk : k < (pack bs).length) : ∃ r, r ≠ [] ∧ bs = unp ((pack bs).take k) ++ r := by
  have hpl := pack_len bs
  have hup := unp_pack bs
  have hu : unp (pack bs) = unp ((pack bs).take k) ++ unp ((pack bs).drop k) := by rw [← unp_append, List.take_append_drop]
  have hkl := unp_len ((pack bs).take k)
  rw [List.length_take, Nat.min_eq_left (by omega)] at hkl
  rw [hup] at hu
  generalize unp ((pack bs).take k) = cs at *
  refine ⟨bs.drop cs.length, ?_, ?_⟩
  · intro e; have := congrArg List.length e; rw [List.length_drop] at this; simp at this; omega
  · have e2 := congrArg (List.take cs.length) hu
    rw [List.take_left' rfl, List.take_append_of_le_length (by omega)] at e2
    conv => lhs; rw [← List.take_append_drop cs.length bs]
    rw [e2]
theorem SmpsIn.ok' {l : List (Int × Int)} (h : SmpsIn l) : SmpsOk l :=
  ⟨fun x hx => by have := h.bd x hx; unfold SmpOk; omega, h.up⟩
set_option maxHeartbeats 1000000 in
theorem same_samples (A B : Option Addr) (n c d : Nat) (l : List (Int × Int)) (w : World) (hn : n ≤ 9223372036854775807) (hA : Sl w 2 A n (l.flatMap gP)) (hB : Sl w 2 B n (l.flatMap gP)) :
    Calls Tryd.prog 30 #[.slice A n c, .slice B n d] w fun e w' => e = .returned (.bool true) ∧ Below w.heap.size w w' := by
  have HA := hid hA; have HB := hid hB; clear hA hB
  have hnn : ((n : Int) != (n : Int)) = false := by simp
  go_enter Tryd.func30, Tryd.ntmps30
  go_wp2
  go_loopw [5] (fun i wr => ∃ k : Nat, k ≤ n ∧ i = .int .i64 k ∧ Below w.heap.size w wr) (fun i _ => n - (intOf i).toNat)
  case atStart => exact ⟨0, Nat.zero_le _, rfl, bnil _⟩
  case round =>
    obtain ⟨k, hk, rfl, hb⟩ := hrel
    have HW := hid hb; clear hb
    by_cases hlt : k < n
    · obtain ⟨ad, x, rfl, hx, c1, c2⟩ := (HA.out.below HW.out).atS hlt
      obtain ⟨ad', x', rfl, hx', d1, d2⟩ := (HB.out.below HW.out).atS hlt
      obtain rfl : x = x' := by rw [hx] at hx'; injection hx'
      clear hx hx'
      obtain ⟨xt, xv⟩ := x
      simp only at c1 c2 d1 d2
      have hq : ((xt : Int) != (xt : Int)) = false := by simp
      have hq2 : ((xv : Int) != (xv : Int)) = false := by simp
      have i1 : (k : Int) < (n : Int) := by omega
      go_wp2_with fail
      go_region
      all_goals
        go_wp2
        go_roundw
        case rel => exact ⟨k + 1, by omega, by go_num, HW.out.drew⟩
        case measure => simp [intOf] <;> omega
    · obtain rfl : k = n := by omega
      go_wp2
      go_ret
      exact ⟨rfl, HW.out⟩
theorem ckGo_len (l : List (Int × Int)) : 1 ≤ (pack (ckGo l).2).length ∧ (pack (ckGo l).2).length ≤ 1 + 16 * l.length := by
  rw [pack_len, ckGo_enc, List.length_append, bitsOf_len]
  have H : ∀ (l : List (Int × Int)) (s : CkSt), (cenc s l).length ≤ 126 * l.length := by
    intro l
    induction l with
    | nil => intro s; simp [cenc]
    | cons x l ih =>
      intro s
      have h1 := zcode_len (s.codes x).1
      have h2 := zcode_len (s.codes x).2
      have h3 := ih (s.next x)
      unfold cenc
      rw [List.length_append, List.length_append, List.length_cons]; omega
  have := H l ⟨0, 0, 0, 0⟩
  omega
theorem cdec_zero : cdec (unp [0]) = ([], 0) := by
  have h : unp [0] = List.replicate 8 false := by decide
  rw [h]
  unfold cdec
  rw [if_neg (by decide), show (List.replicate 8 false).take 8 = List.replicate 8 false from by decide, numOf_zeros, if_neg (by decide)]
  rfl
theorem cdec_nil : cdec (unp []) = ([], 5) := by
  unfold cdec
  rw [if_pos (by decide)]
set_option maxRecDepth 100000 in
set_option maxHeartbeats 400000 in
theorem law_chunkFixed (A : Option Addr) (n c : Nat) (l : List UInt8) (w : World) (hn : n ≤ c) (hc : c ≤ maxLen) (hc2 : c * 1 ≤ 140737488351232) (hx : Sl w 1 A n (byts l)) (ht : ZTab w) :
    Calls Tryd.prog 13 #[.slice A n c] w fun e w' => e = .returned (.bool true) ∧ Below w.heap.size w w' := by
  have HX := hid hx; have HT := hid ht; clear hx ht
  have hln := HX.out.lenb
  unfold maxLen at hc
  go_enter Tryd.func13, Tryd.ntmps13
  go_wp2_with (at_builtin; refine wpList_appY elmB gB_one rfl (.const (.slice none 0 0)) (.tmp 12) rfl (.slice none 0 0) [] rfl (Ow.nil _ _ _ _) l l (hid (List.nil_append _)) rfl HX.out hln (by simp only [maxLen]; omega) (by omega) ?_; intro A1 c1 w1 hc3 hc4 HN1 _ _)
  rw [hln] at hc3 HN1
  refine (ck_decode A1 n c1 l w1 (by omega) HN1.out.sl (HT.out.below HN1.out.below)).mono ?_
  obtain ⟨z, hz⟩ : ∃ z, cdec (unp l) = z := ⟨_, rfl⟩
  have HZ := hid hz
  have HERR := hid (cdec_err (unp l))
  have hlb : z.1.length ≤ 9223372036854775807 := by
    rcases HERR.out with h | h
    · have := (cdec_fix l z.1 (by rw [hz]; rw [hz] at h; exact Prod.ext rfl h)).2.1; omega
    · rw [hz] at h; rw [h.2]; simp
  rw [hz] at HERR ⊢
  clear hz
  obtain ⟨s, er⟩ := z
  rintro e w2 ⟨v2, rfl, ho2⟩
  simp only at ho2 HERR hlb ⊢
  obtain ⟨A2, c2, rfl, hc5, hc6⟩ := ho2.form
  have HO2 := hid ho2; clear ho2
  have HB2 := hid (bgo HN1.out.below HO2.out.below)
  go_wp2_with fail
  refine (ck_decode _ 1 1 [0] _ (by omega) (Sl.fresh w2 #[.int .u8 0] 5 1 1 rfl) ((HT.out.below HB2.out).below (bnew (bnil _) _))).mono ?_
  rw [cdec_zero]
  rintro e w3 ⟨v3, rfl, ho3⟩
  obtain ⟨A3, c3, rfl, hc7, hc8⟩ := ho3.form
  simp only [List.length_nil] at hc7 ho3 ⊢
  have HB3 := hid (bgo (bnew (bnil w2) _) ho3.below); clear ho3
  go_wp2_with fail
  refine (ck_decode _ 0 0 [] _ (by omega) (Sl.nil _) (HT.out.below (bgo HB2.out HB3.out))).mono ?_
  rw [cdec_nil]
  rintro e w4 ⟨v4, rfl, ho4⟩
  have HB4 := hid (bgo HB3.out ho4.below); clear ho4
  by_cases h0 : er = 0
  · subst h0
    obtain ⟨hso, hsl, hpk⟩ := cdec_fix l s HZ.out
    have HPK := hid hpk; have HSO := hid hso
    clear hpk hso
    have HO4 := hid (HO2.out.step HB4.out)
    go_wp2_with fail
    refine (ck_encode A2 s.length c2 s w4 (by omega) HO4.out.sl HSO.out ((HT.out.below HB2.out).below HB4.out)).mono ?_
    rw [HPK.out]
    rintro e w5 ⟨v5, rfl, ho5⟩
    obtain ⟨A5, c5, rfl, hc9, hc10⟩ := ho5.form
    have HO5 := hid ho5; clear ho5
    rw [hln] at HO5 hc9 ⊢
    have HX5 := hid (HX.out.below (bgo HB2.out (bgo HB4.out HO5.out.below)))
    go_wp2_with fail
    refine (same_bytes A5 A n _ _ l w5 (by omega) HO5.out.sl HX5.out).mono ?_
    rintro e w6 ⟨rfl, hb6⟩
    have HB6 := hid hb6; clear hb6
    go_wp2
    go_ret
    exact ⟨rfl, bgo HB2.out (bgo HB4.out (bgo HO5.out.below HB6.out))⟩
  · have h1 := HERR.out.resolve_left h0
    obtain ⟨h1, h2⟩ := h1
    subst h2
    rcases h1 with rfl | rfl
    all_goals
      go_wp2
      go_ret
      exact ⟨rfl, bgo HB2.out HB4.out⟩
set_option maxRecDepth 100000 in
set_option maxHeartbeats 1000000 in
theorem law_chunkBack (A : Option Addr) (n c : Nat) (l : List (Int × Int × Bool)) (a b : Int) (C : Option Addr) (p q : Nat) (ms : List UInt8) (w : World) (hn : n ≤ c) (hc : c ≤ maxLen) (_ : c * 24 ≤ 140737488351232) (hx : Sl w 3 A n (l.flatMap gD)) (hd : ∀ d ∈ l, DotOk d)
    (ha : -9223372036854775808 ≤ a) (ha1 : a ≤ 9223372036854775807) (hb : -9223372036854775808 ≤ b) (hb1 : b ≤ 9223372036854775807)
    (hp : p ≤ q) (hq : q ≤ maxLen) (hq2 : q * 1 ≤ 140737488351232) (hC : Sl w 1 C p (byts ms)) (ht : ZTab w) :
    Calls Tryd.prog 12 #[.slice A n c, .int .i64 a, .int .i64 b, .slice C p q] w fun e w' => e = .returned (.bool true) ∧ Below w.heap.size w w' := by
  have HX := hid hx; have HD := hid hd; have HT := hid ht; have HC := hid hC; clear hx hd ht hC
  have hms := HC.out.lenb
  have HMS := hid hms
  clear hms
  go_enter Tryd.func12, Tryd.ntmps12
  go_wp2_with fail
  refine (samples A n c l a 120 w hn hc HX.out HD.out ha ha1 (by omega)).mono ?_
  rintro e w1 ⟨v1, rfl, ho1⟩
  obtain ⟨hin, hlen⟩ := smps_in a ha ha1 l HD.out 120
  have HSO := hid hin.ok'
  obtain ⟨s, hs⟩ : ∃ s, smps l a 120 = s := ⟨_, rfl⟩
  rw [hs] at ho1 HSO hlen
  clear hin hs
  obtain ⟨A1, c1, rfl, hc1, hc2⟩ := ho1.form
  have HO1 := hid ho1; clear ho1
  obtain ⟨m, hm⟩ : ∃ m, s.length = m := ⟨_, rfl⟩
  rw [hm] at HO1 hc1 hlen ⊢
  have HM := hid hm
  obtain ⟨pl1, pl2⟩ := ckGo_len s
  rw [hm] at pl2
  have HBK := hid (cdec_back s HSO.out (by omega))
  have HCUT := hid (show ∀ j, j < (pack (ckGo s).2).length → (cdec (unp ((pack (ckGo s).2).take j))).2 = 5 from fun j hj => cdec_cut s HSO.out (by omega) j hj)
  have HMORE := hid (cdec_more s HSO.out (by omega) ([0] ++ ms) (by simp))
  go_wp2_with fail
  refine (ck_encode A1 m c1 s w1 (by omega) HO1.out.sl HSO.out (HT.out.below HO1.out.below)).mono ?_
  rintro e w2 ⟨v2, rfl, ho2⟩
  obtain ⟨P, hP⟩ : ∃ P, pack (ckGo s).2 = P := ⟨_, rfl⟩
  rw [hP] at pl1 pl2 HBK HCUT HMORE ho2
  obtain ⟨A2, c2, rfl, hc3, hc4⟩ := ho2.form
  obtain ⟨L, hL⟩ : ∃ L, P.length = L := ⟨_, rfl⟩
  have HLP := hid hL
  rw [hL] at pl1 pl2 HCUT ho2 hc3 ⊢
  have HO2 := hid ho2; clear ho2 hP hm
  clear hL
  unfold maxLen at hc2 hc4 hq
  go_wp2_with (at_builtin; refine wpList_appY elmB gB_one rfl (.const (.slice none 0 0)) (.tmp 27) rfl (.slice none 0 0) [] rfl (Ow.nil _ _ _ _) P P (hid (List.nil_append _)) rfl HO2.out.sl HLP.out (by rw [HLP.out]; simp only [maxLen]; omega) (by rw [HLP.out]; omega) ?_; intro A3 c3 w3 hc5 hc6 HN1 _ _)
  rw [HLP.out] at hc5 HN1 ⊢
  refine (ck_decode A3 L c3 P w3 (by omega) HN1.out.sl (HT.out.below (bgo HO1.out.below (bgo HO2.out.below HN1.out.below)))).mono ?_
  rw [HBK.out]
  rintro e w4 ⟨v4, rfl, ho4⟩
  obtain ⟨A4, c4, rfl, hc7, hc8⟩ := ho4.form
  have HO4 := hid ho4; clear ho4
  rw [HM.out] at HO4 hc7 ⊢
  have HS4 := hid (HO1.out.step (bgo HO2.out.below (bgo HN1.out.below HO4.out.below)))
  have i1 : ¬ (L : Int) < 1 := by omega
  go_wp2_with fail
  refine (same_samples A1 A4 m _ _ s w4 (by omega) HS4.out.sl HO4.out.sl).mono ?_
  rintro e w5 ⟨rfl, hb5⟩
  have HB5 := hid (bgo HN1.out.below (bgo HO4.out.below hb5)); clear hb5
  go_wp2_with fail
  refine (picked b (L : Int) w5 (by omega) hb hb1 (by omega)).mono ?_
  rintro e w5 ⟨rfl, rfl⟩
  have hpk := pk_lt b (L : Int) (by omega)
  generalize pk b (L : Int) = j at *
  have hjL : j < L := by omega
  clear hpk
  have hjc : (j : Int) ≤ (c2 : Int) := by omega
  have HSJ := hid ((HO2.out.step HB5.out).sl.preB (k := j) (by omega))
  have HCJ := hid (HCUT.out j hjL)
  have HT5 := hid (HT.out.below (bgo HO1.out.below (bgo HO2.out.below HB5.out)))
  go_wp2_with fail
  refine (ck_decode A2 j c2 (P.take j) w5 (by omega) HSJ.out HT5.out).mono ?_
  rw [HCJ.out]
  rintro e w6 ⟨v6, rfl, ho6⟩
  have HB6 := hid (bgo HB5.out ho6.below); clear ho6
  obtain ⟨P1, hP1⟩ : ∃ P1, P ++ [(0 : UInt8)] = P1 := ⟨_, rfl⟩
  have hp1l : P1.length = L + 1 := by rw [← hP1, List.length_append, HLP.out]; rfl
  obtain ⟨P2, hP2⟩ : ∃ P2, P1 ++ ms = P2 := ⟨_, rfl⟩
  have hp2l : P2.length = L + 1 + p := by rw [← hP2, List.length_append, hp1l, HMS.out]
  have HM2 := HMORE.out
  rw [← List.append_assoc, hP1, hP2] at HM2
  have HMO := hid HM2
  have HP1 := hid hP1; have HP2 := hid hP2; have HPL1 := hid hp1l; have HPL2 := hid hp2l
  clear HM2 hP1 hP2 hp1l hp2l HMORE
  have HO6 := hid (HO2.out.step HB6.out)
  have HC6 := hid (HC.out.below (bgo HO1.out.below (bgo HO2.out.below HB6.out)))
  go_wp2_with (first
    | (at_builtin; refine wpList_appY elmB gB_one rfl (.const (.slice none 0 0)) (.tmp 60) rfl (.slice none 0 0) [] rfl (Ow.nil _ _ _ _) P P (hid (List.nil_append _)) rfl HO6.out.sl HLP.out (by rw [HLP.out]; simp only [maxLen]; omega) (by rw [HLP.out]; omega) ?_; intro A7 c7 w7 hc9 hc10 HN2 _ _)
    | (at_builtin; refine wpList_appY elmB gB_one rfl (.tmp 61) (.tmp 62) rfl (.slice A7 _ c7) P rfl (HN2.out.alloc _) [0] P1 HP1 rfl (Sl.fresh w7 #[.int .u8 0] 5 1 1 rfl) rfl (by rw [HPL1.out]; simp only [maxLen]; omega) (by rw [HPL1.out]; omega) ?_; intro A8 c8 w8 hc11 hc12 HN3 _ _)
    | (at_builtin; refine wpList_appY elmB gB_one rfl (.tmp 63) (.tmp 64) rfl (.slice A8 _ c8) P1 rfl HN3.out ms P2 HP2 rfl (HC6.out.below HN3.out.below) HMS.out (by rw [HPL2.out]; simp only [maxLen]; omega) (by rw [HPL2.out]; omega) ?_; intro A9 c9 w9 hc13 hc14 HN4 _ _))
  rw [HPL2.out] at hc13 HN4 ⊢
  refine (ck_decode A9 (L + 1 + p) c9 P2 w9 (by omega) HN4.out.sl (HT.out.below (bgo HO1.out.below (bgo HO2.out.below (bgo HB6.out HN4.out.below))))).mono ?_
  rw [HMO.out]
  rintro e w10 ⟨v10, rfl, ho10⟩
  have HB10 := hid (bgo HN4.out.below ho10.below); clear ho10
  go_wp2
  go_ret
  exact ⟨rfl, bgo HO1.out.below (bgo HO2.out.below (bgo HB6.out HB10.out))⟩
end Go.Proofs.YtpoaomjpbjcmbaaDoor
