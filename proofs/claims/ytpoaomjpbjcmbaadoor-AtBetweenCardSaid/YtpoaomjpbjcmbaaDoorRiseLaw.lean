/-
  RiseParts, RiseNever: their walks.
-/
import Derived.Test.YtpoaomjpbjcmbaaDoorPairs
namespace Go.Proofs.YtpoaomjpbjcmbaaDoor
open Go.RowKit
set_option linter.unusedVariables false
theorem NearIn.drop {l : List (Int × Int)} (h : NearIn l) (i : Nat) : NearIn (l.drop i) :=
  ⟨fun x hx => h.bd x (List.mem_of_mem_drop hx), fun k x y hx hy => by
    rw [List.getElem?_drop] at hx hy
    exact h.up (i + k) x y hx (by rw [← hy]; congr 1)⟩
theorem NearIn.take {l : List (Int × Int)} (h : NearIn l) (i : Nat) : NearIn (l.take i) :=
  ⟨fun x hx => h.bd x (List.mem_of_mem_take hx), fun k x y hx hy => by
    rw [List.getElem?_take] at hx hy
    split at hy
    · rename_i h1
      rw [if_pos (by omega)] at hx
      exact h.up k x y hx hy
    · cases hy⟩
theorem prs_take (d : Int × Int → Int × Int → Int) (l : List (Int × Int)) (i : Nat) : ∀ k, k ≤ i → prs d (l.take (i + 1)) k = prs d l k
  | 0, _ => rfl
  | k + 1, h => by
    have ih := prs_take d l i k (by omega)
    have e1 : (l.take (i + 1)).getD k (0, 0) = l.getD k (0, 0) := by rw [List.getD_eq_getElem?_getD, List.getD_eq_getElem?_getD, List.getElem?_take, if_pos (by omega)]
    have e2 : (l.take (i + 1)).getD (k + 1) (0, 0) = l.getD (k + 1) (0, 0) := by rw [List.getD_eq_getElem?_getD, List.getD_eq_getElem?_getD, List.getElem?_take, if_pos (by omega)]
    unfold prs
    rw [ih, e1, e2]
theorem prs_drop (d : Int × Int → Int × Int → Int) (l : List (Int × Int)) (i : Nat) : ∀ k, prs d l i + prs d (l.drop i) k = prs d l (i + k)
  | 0 => by simp [prs]
  | k + 1 => by
    have ih := prs_drop d l i k
    have e1 : (l.drop i).getD k (0, 0) = l.getD (i + k) (0, 0) := by rw [List.getD_eq_getElem?_getD, List.getD_eq_getElem?_getD, List.getElem?_drop]
    have e2 : (l.drop i).getD (k + 1) (0, 0) = l.getD (i + k + 1) (0, 0) := by rw [List.getD_eq_getElem?_getD, List.getD_eq_getElem?_getD, List.getElem?_drop]; rfl
    show prs d l i + (prs d (l.drop i) k + _) = prs d l (i + k) + _
    rw [e1, e2, ← Int.add_assoc, ih]; rfl
theorem near_two : NearIn [((0 : Int), (1 : Int)), (1, 4)] := by
  refine ⟨by simp, ?_⟩
  intro k x y hx hy
  have hk : k = 0 := by
    have := (List.getElem?_eq_some_iff.1 hy).1; simp at this; omega
  subst hk
  simp at hx hy; subst hx; subst hy; decide
set_option maxHeartbeats 2000000 in
set_option maxRecDepth 100000 in
theorem law_riseParts (A : Option Addr) (n c : Nat) (l : List (Int × Int × Bool)) (a : Int) (w : World) (hn : n ≤ c) (hc : c ≤ maxLen) (_ : c * 24 ≤ 140737488351232) (hx : Sl w 3 A n (l.flatMap gD)) (hd : ∀ d ∈ l, DotOk d) (ha : -9223372036854775808 ≤ a) (ha1 : a ≤ 9223372036854775807) (ht : ZTab w) :
    Calls Tryd.prog 7 #[.slice A n c, .int .i64 a] w fun e w' => e = .returned (.bool true) ∧ Below w.heap.size w w' := by
  have HX := hid hx; have HD := hid hd; have HT := hid ht; clear hx hd ht
  go_enter Tryd.func7, Tryd.ntmps7
  go_wp2_with fail
  refine (near_of A n c l 80 w hn hc HX.out HD.out (by omega)).mono ?_
  rintro e w1 ⟨v1, rfl, ho1⟩
  obtain ⟨hin, hlen, _, _⟩ := nears_in l 80 (by omega)
  have HI := hid hin
  generalize nears l 80 = s at *
  obtain ⟨A1, c1, rfl, hc1, hc2⟩ := ho1.form
  obtain ⟨m, hm⟩ : ∃ m, s.length = m := ⟨_, rfl⟩
  rw [hm] at ho1 hc1 hlen ⊢
  have hm2 : 2 ≤ m := by omega
  have hm82 : m ≤ 82 := by omega
  have HO1 := hid ho1; have HM := hid hm
  clear ho1 hm hin hlen
  go_wp2_with fail
  refine (picked a _ w1 (by omega) ha ha1 (by omega)).mono ?_
  rintro e w1 ⟨rfl, rfl⟩
  have hp := pk_lt a (m : Int) (by omega)
  generalize pk a (m : Int) = i at *
  have him : i < m := by omega
  clear hp
  obtain ⟨X1, hX1⟩ : ∃ X, prs dRise s i = X := ⟨_, rfl⟩
  obtain ⟨X2, hX2⟩ : ∃ X, prs dRise (s.drop i) (m - i - 1) = X := ⟨_, rfl⟩
  obtain ⟨X3, hX3⟩ : ∃ X, prs dRise s (m - 1) = X := ⟨_, rfl⟩
  have hsum : X1 + X2 = X3 := by
    rw [← hX1, ← hX2, ← hX3, prs_drop]; congr 1; omega
  have b1 := prs_bd dRise s HI.out dRise_bd i (by rw [HM.out]; omega)
  have b3 := prs_bd dRise s HI.out dRise_bd (m - 1) (by rw [HM.out]; omega)
  rw [hX1] at b1; rw [hX3] at b3
  have HX1 := hid hX1; have HX2 := hid hX2; have HX3 := hid hX3
  have w1a : IntKind.i64.wrap (X1 + X2) = X1 + X2 := IntWalk.i64_in _ (by omega)
  have w1b : wrap64 (X1 + X2) = X1 + X2 := IntWalk.wrap64_in _ ⟨by omega, by omega⟩
  have w2 := beqT hsum
  clear hX1 hX2 hX3 hsum b1 b3
  unfold maxLen at hc2
  have z1 : (i : Int) + 1 ≤ (c1 : Int) := by omega
  have z2 : (i : Int) ≤ (c1 : Int) := by omega
  have z3 : (i : Int) ≤ (m : Int) := by omega
  have z4 : (m : Int) ≤ (c1 : Int) := by omega
  have z5 : (0 : Int) ≤ (i : Int) + 1 := by omega
  have z6 : ((i : Int) + 1).toNat = i + 1 := by omega
  have hsi := HO1.out.sl.cutG (g := gP) (fun _ => rfl) (Nat.le_of_lt him) hc1
  rw [if_neg (by omega)] at hsi
  have HSI := hid hsi
  have HSP := hid (HO1.out.sl.preG (k := i + 1) (g := gP) (fun _ => rfl) (by omega))
  clear hsi
  have hl1 : (s.take (i + 1)).length = i + 1 := by rw [List.length_take, HM.out]; omega
  have hl2 : (s.drop i).length = m - i := by rw [List.length_drop, HM.out]
  have q1 : prs dRise (s.take (i + 1)) (i + 1 - 1) = X1 := by rw [Nat.add_sub_cancel, prs_take dRise s i i (Nat.le_refl _), HX1.out]
  have n1 := HI.out.take (i + 1)
  have n2 := HI.out.drop i
  obtain ⟨L1, hL1⟩ : ∃ L, s.take (i + 1) = L := ⟨_, rfl⟩
  obtain ⟨L2, hL2⟩ : ∃ L, s.drop i = L := ⟨_, rfl⟩
  rw [hL1] at hl1 HSP q1 n1
  rw [hL2] at hl2 HSI HX2 n2
  have HL1 := hid hl1; have HL2 := hid hl2; have HQ1 := hid q1; have HN1' := hid n1; have HN2' := hid n2
  clear hl1 hl2 hL1 hL2 q1 n1 n2
  go_wp2_with (at_builtin; refine wpList_appY elmP gP_one rfl (.const (.slice none 0 0)) (.tmp 25) rfl (.slice none 0 0) [] rfl (Ow.nil _ _ _ _) L1 L1 (hid (List.nil_append _)) rfl HSP.out HL1.out (by rw [HL1.out]; simp only [maxLen]; omega) (by rw [HL1.out]; omega) ?_; intro A3 c3 w3 hc3 hc4 HN1 _ _)
  rw [HL1.out] at hc3 HN1 ⊢
  refine (rate_Rise A3 (i + 1) c3 L1 w3 (by omega) HN1.out.sl HN1'.out ((HT.out.below HO1.out.below).below HN1.out.below)).mono ?_
  rw [HQ1.out]
  rintro e w4 ⟨rfl, hb4⟩
  have HB4 := hid (bgo' hb4 HN1.out.below)
  clear hb4
  go_wp2_with (at_builtin; refine wpList_appY elmP gP_one rfl (.const (.slice none 0 0)) (.tmp 33) rfl (.slice none 0 0) [] rfl (Ow.nil _ _ _ _) L2 L2 (hid (List.nil_append _)) rfl (HSI.out.below HB4.out) HL2.out (by rw [HL2.out]; simp only [maxLen]; omega) (by rw [HL2.out]; omega) ?_; intro A5 c5 w5 hc5 hc6 HN2 _ _)
  rw [HL2.out] at hc5 HN2 ⊢
  refine (rate_Rise A5 (m - i) c5 L2 w5 (by omega) HN2.out.sl HN2'.out ((HT.out.below HO1.out.below).below (bgo' HN2.out.below HB4.out))).mono ?_
  rw [HX2.out]
  rintro e w6 ⟨rfl, hb6⟩
  have HB6 := hid (bgo' hb6 (bgo' HN2.out.below HB4.out))
  clear hb6
  go_wp2_with (at_builtin; refine wpList_appY elmP gP_one rfl (.const (.slice none 0 0)) (.tmp 39) rfl (.slice none 0 0) [] rfl (Ow.nil _ _ _ _) s s (hid (List.nil_append _)) rfl (HO1.out.sl.below HB6.out) HM.out (by rw [HM.out]; simp only [maxLen]; omega) (by rw [HM.out]; omega) ?_; intro A7 c7 w7 hc7 hc8 HN3 _ _)
  rw [HM.out] at hc7 HN3 ⊢
  refine (rate_Rise A7 m c7 s w7 (by omega) HN3.out.sl HI.out ((HT.out.below HO1.out.below).below (bgo' HN3.out.below HB6.out))).mono ?_
  rw [HX3.out]
  rintro e w8 ⟨rfl, hb8⟩
  have HB8 := hid (bgo' hb8 (bgo' HN3.out.below HB6.out))
  clear hb8
  go_wp2_with fail
  refine (rate_Rise _ 2 2 [(0, 1), (1, 4)] _ (by omega) (Sl.fresh w8 #[.int .i64 0, .int .i64 1, .int .i64 1, .int .i64 4] 26 2 2 rfl) near_two (((HT.out.below HO1.out.below).below HB8.out).below (bnew (bnil _) _))).mono ?_
  rw [show prs dRise [((0 : Int), (1 : Int)), (1, 4)] (2 - 1) = 3 from rfl]
  rintro e w9 ⟨rfl, hb9⟩
  have HB9 := hid (bgo' hb9 (bnew HB8.out _))
  clear hb9
  go_wp2
  go_ret
  exact ⟨rfl, bgo' HB9.out HO1.out.below⟩
end Go.Proofs.YtpoaomjpbjcmbaaDoor
