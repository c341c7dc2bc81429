/-
  RiseNever: its walk.
-/
import Derived.Test.YtpoaomjpbjcmbaaDoorRiseLaw
namespace Go.Proofs.YtpoaomjpbjcmbaaDoor
open Go.RowKit
set_option linter.unusedVariables false
theorem snoc_ind' {α : Type} {Q : List α → Prop} (h0 : Q []) (h1 : ∀ l x, Q l → Q (l ++ [x])) (l : List α) : Q l := by
  have H : ∀ n, ∀ l : List α, l.length = n → Q l := by
    intro n
    induction n with
    | zero => intro l h; rw [List.eq_nil_of_length_eq_zero h]; exact h0
    | succ n ih =>
      intro l h
      have e : l = l.take n ++ [l[n]] := by rw [List.take_append_getElem, List.take_of_length_le (by omega)]
      rw [e]
      exact h1 _ _ (ih _ (by rw [List.length_take]; omega))
  exact H _ l rfl
def up1 (s : Int × List (Int × Int)) (x : Int × Int) : Int × List (Int × Int) :=
  if s.2.length = 0 then (s.1, s.2 ++ [(x.1, s.1)]) else (s.1 + x.2, s.2 ++ [(x.1, s.1 + x.2)])
def upSt (l : List (Int × Int)) : Int × List (Int × Int) := l.foldl up1 (7, [])
theorem upSt_snoc (l : List (Int × Int)) (x : Int × Int) : upSt (l ++ [x]) = up1 (upSt l) x := by unfold upSt; rw [List.foldl_append]; rfl
theorem prs_append (d : Int × Int → Int × Int → Int) (l t : List (Int × Int)) : ∀ k, k + 1 ≤ l.length ∨ k = 0 → prs d (l ++ t) k = prs d l k
  | 0, _ => rfl
  | k + 1, h => by
    have hk : k + 1 + 1 ≤ l.length := by omega
    have ih := prs_append d l t k (by omega)
    have e1 : (l ++ t).getD k (0, 0) = l.getD k (0, 0) := by rw [List.getD_eq_getElem?_getD, List.getD_eq_getElem?_getD, List.getElem?_append_left (by omega)]
    have e2 : (l ++ t).getD (k + 1) (0, 0) = l.getD (k + 1) (0, 0) := by rw [List.getD_eq_getElem?_getD, List.getD_eq_getElem?_getD, List.getElem?_append_left (by omega)]
    unfold prs
    rw [ih, e1, e2]
theorem upSt_inv (l : List (Int × Int)) (hv : ∀ x ∈ l, 0 ≤ x.2 ∧ x.2 ≤ 1000) :
    (upSt l).2.length = l.length ∧ 7 ≤ (upSt l).1 ∧ (upSt l).1 ≤ 7 + 1000 * (l.length : Int) ∧ (∀ (k : Nat) (x : Int × Int), (upSt l).2[k]? = some x → (∃ z : Int × Int, l[k]? = some z ∧ x.1 = z.1) ∧ 7 ≤ x.2 ∧ x.2 ≤ 7 + 1000 * (l.length : Int)) ∧
    (0 < l.length → ((upSt l).2.getD (l.length - 1) (0, 0)).2 = (upSt l).1 ∧ prs dRise (upSt l).2 (l.length - 1) = (upSt l).1 - 7) ∧ (l.length = 0 → (upSt l).1 = 7) := by
  induction l using snoc_ind' with
  | h0 => simp [upSt]
  | h1 l x ih =>
    obtain ⟨h1, h2, h3, h4, h5, h6⟩ := ih fun y hy => hv y (by simp [hy])
    have hx := hv x (by simp)
    rw [upSt_snoc]
    unfold up1
    by_cases h0 : l.length = 0
    · rw [if_pos (by omega)]
      have e7 := h6 h0
      have el : l = [] := List.eq_nil_of_length_eq_zero h0
      have eu : (upSt l).2 = [] := List.eq_nil_of_length_eq_zero (by omega)
      subst el
      rw [eu]
      simp only [List.nil_append, List.length_singleton]
      refine ⟨by trivial, by omega, by omega, ?_, ?_, by simp⟩
      · intro k y hy
        have hk : k = 0 := by
          have := (List.getElem?_eq_some_iff.1 hy).1; simp at this; omega
        subst hk
        simp at hy; subst hy
        exact ⟨⟨x, by simp, rfl⟩, by simp only; omega, by simp only; omega⟩
      · intro _; refine ⟨rfl, ?_⟩; show (0 : Int) = _; omega
    · rw [if_neg (by omega)]
      obtain ⟨h7, h8⟩ := h5 (by omega)
      simp only [List.length_append, List.length_singleton]
      refine ⟨by omega, by omega, by omega, ?_, ?_, by omega⟩
      · intro k y hy
        by_cases hk : k < (upSt l).2.length
        · rw [List.getElem?_append_left hk] at hy
          obtain ⟨⟨z, hz, e⟩, g1, g2⟩ := h4 k y hy
          exact ⟨⟨z, by rw [List.getElem?_append_left (by omega)]; exact hz, e⟩, g1, by omega⟩
        · have hk2 : k = (upSt l).2.length := by
            have := (List.getElem?_eq_some_iff.1 hy).1; simp at this; omega
          subst hk2
          simp at hy; subst hy
          exact ⟨⟨x, by rw [h1]; simp, rfl⟩, by simp only; omega, by simp only; omega⟩
      · intro _
        have e9 : ((upSt l).2 ++ [(x.1, (upSt l).1 + x.2)]).getD l.length (0, 0) = (x.1, (upSt l).1 + x.2) := by
          rw [List.getD_eq_getElem?_getD, ← h1]; simp
        rw [show l.length + 1 - 1 = l.length by omega]
        refine ⟨by rw [e9], ?_⟩
        obtain ⟨k, hk⟩ : ∃ k, l.length = k + 1 := ⟨l.length - 1, by omega⟩
        rw [hk] at e9 h7 h8 ⊢
        rw [show k + 1 - 1 = k by omega] at h7 h8
        have e10 : ((upSt l).2 ++ [(x.1, (upSt l).1 + x.2)]).getD k (0, 0) = (upSt l).2.getD k (0, 0) := by
          rw [List.getD_eq_getElem?_getD, List.getD_eq_getElem?_getD, List.getElem?_append_left (by omega)]
        have e11 := prs_append dRise (upSt l).2 [(x.1, (upSt l).1 + x.2)] k (by omega)
        show prs dRise _ k + dRise _ _ = _
        rw [e11, e9, e10, h8]
        unfold dRise
        rw [h7]
        simp only
        rw [if_pos (by omega)]; omega
theorem upSt_near (l : List (Int × Int)) (h : NearIn l) (hl : l.length ≤ 100) (hv : ∀ x ∈ l, 0 ≤ x.2 ∧ x.2 ≤ 1000) : NearIn (upSt l).2 := by
  obtain ⟨h1, h2, h3, h4, _, _⟩ := upSt_inv l hv
  refine ⟨fun x hx => ?_, fun k x y hx hy => ?_⟩
  · obtain ⟨k, hk, rfl⟩ := List.getElem_of_mem hx
    obtain ⟨⟨z, hz, e⟩, g1, g2⟩ := h4 k _ (List.getElem?_eq_getElem hk)
    have := h.bd z (List.mem_of_getElem? hz)
    omega
  · obtain ⟨⟨z, hz, e⟩, _⟩ := h4 k _ hx
    obtain ⟨⟨z', hz', e'⟩, _⟩ := h4 (k + 1) _ hy
    have := h.up k _ _ hz hz'
    omega
theorem rise_ge (l : List (Int × Int)) (hv : ∀ x ∈ l, 0 ≤ x.2 ∧ x.2 ≤ 1000) : ∀ k, k < l.length → (l.getD k (0, 0)).2 - (l.getD 0 (0, 0)).2 ≤ prs dRise l k ∧ 0 ≤ prs dRise l k
  | 0, h => by show _ ≤ (0 : Int) ∧ (0 : Int) ≤ 0; omega
  | k + 1, h => by
    obtain ⟨ih1, ih2⟩ := rise_ge l hv k (by omega)
    have e1 : l.getD k (0, 0) = l[k] := by rw [List.getD_eq_getElem?_getD, List.getElem?_eq_getElem (by omega)]; rfl
    have e2 : l.getD (k + 1) (0, 0) = l[k + 1] := by rw [List.getD_eq_getElem?_getD, List.getElem?_eq_getElem h]; rfl
    have b1 := hv _ (List.getElem_mem (show k < l.length by omega))
    have b2 := hv _ (List.getElem_mem h)
    show _ ≤ prs dRise l k + dRise _ _ ∧ 0 ≤ prs dRise l k + dRise _ _
    rw [e1] at ih1 ⊢
    rw [e2]
    rw [show dRise l[k] l[k + 1] = if l[k].2 ≤ l[k + 1].2 then l[k + 1].2 - l[k].2 else l[k + 1].2 from rfl]
    by_cases hh : l[k].2 ≤ l[k + 1].2
    · rw [if_pos hh]; omega
    · rw [if_neg hh]; omega
set_option maxHeartbeats 2000000 in
set_option maxRecDepth 100000 in
theorem law_riseNever (A : Option Addr) (n c : Nat) (l : List (Int × Int × Bool)) (w : World) (hn : n ≤ c) (hc : c ≤ maxLen) (_ : c * 24 ≤ 140737488351232) (hx : Sl w 3 A n (l.flatMap gD)) (hd : ∀ d ∈ l, DotOk d) (ht : ZTab w) :
    Calls Tryd.prog 8 #[.slice A n c] w fun e w' => e = .returned (.bool true) ∧ Below w.heap.size w w' := by
  have HX := hid hx; have HD := hid hd; have HT := hid ht; clear hx hd ht
  go_enter Tryd.func8, Tryd.ntmps8
  go_wp2_with fail
  refine (near_of A n c l 80 w hn hc HX.out HD.out (by omega)).mono ?_
  rintro e w1 ⟨v1, rfl, ho1⟩
  obtain ⟨hin, hlen, hvs, _⟩ := nears_in l 80 (by omega)
  have HI := hid hin; have HV := hid (show ∀ x ∈ nears l 80, 0 ≤ x.2 ∧ x.2 ≤ 1000 from fun x hx => (hvs x hx).2)
  generalize nears l 80 = s at *
  obtain ⟨A1, c1, rfl, hc1, hc2⟩ := ho1.form
  obtain ⟨m, hm⟩ : ∃ m, s.length = m := ⟨_, rfl⟩
  rw [hm] at ho1 hc1 hlen ⊢
  have hm2 : 2 ≤ m := by omega
  have hm82 : m ≤ 82 := by omega
  have HO1 := hid ho1; have HM := hid hm
  clear ho1 hm hin hlen hvs
  go_wp2
  go_loopw [4, 5, 6] (fun u v i wr => ∃ (k : Nat) (st : Int × List (Int × Int)) (B : Option Addr) (d : Nat), k ≤ m ∧ i = .int .i64 k ∧ v = .int .i64 st.1 ∧ u = .slice B st.2.length d ∧ st.2.length ≤ d ∧ d ≤ 9223372036854775807 ∧ Hid (upSt (s.take k) = st) ∧ Ow w1 wr 26 2 gP u st.2) (fun _ _ i _ => m - (intOf i).toNat)
  case atStart => exact ⟨0, (7, []), none, 0, Nat.zero_le _, rfl, rfl, rfl, by simp, by simp, hid rfl, Ow.nil _ _ _ _⟩
  case round =>
    obtain ⟨k, ⟨v, out⟩, B, d, hk, rfl, rfl, rfl, hd1, hd2, HST, ho⟩ := hrel
    simp only at hd1 ho ⊢
    have HO := hid ho; clear ho
    have hinv := upSt_inv (s.take k) fun x hx => HV.out x (List.mem_of_mem_take hx)
    rw [HST.out] at hinv
    obtain ⟨hv1, hv2, hv3, _, _, _⟩ := hinv
    simp only at hv1 hv2 hv3
    rw [List.length_take, HM.out, Nat.min_eq_left hk] at hv1 hv3
    have hv4 : v ≤ 100000 := by omega
    have HV1 := hid hv1
    have hol : out.length ≤ 82 := by omega
    clear hv3 hv1
    by_cases hlt : k < m
    · obtain ⟨ad, x, rfl, hxk, c0, c2⟩ := (HO1.out.step HO.out.below).sl.atS hlt
      have HS := hid (show upSt (s.take (k + 1)) = up1 (v, out) x by rw [take_next hxk, upSt_snoc, HST.out])
      have hxv := HV.out x (List.mem_of_getElem? hxk)
      obtain ⟨xt, xv⟩ := x
      simp only at c0 c2 hxv
      have i1 : (k : Int) < (m : Int) := by omega
      clear hxk
      by_cases hk0 : k = 0
      · have i2 : decide ((0 : Int) < (k : Int)) = false := decide_eq_false (by omega)
        have i3 : ¬ 0 < k := by omega
        have HS' := HS.out
        unfold up1 at HS'
        rw [if_pos (by show out.length = 0; rw [HV1.out]; exact hk0)] at HS'
        obtain ⟨y, hy⟩ : ∃ y, out ++ [(xt, v)] = y := ⟨_, rfl⟩
        have hyl : y.length ≤ 1002 := by rw [← hy]; simp; omega
        have HY := hid hy
        simp only at HS'
        rw [hy] at HS'
        have HSM := hid HS'
        clear HS HS' hy hk0
        go_wp2_with (at_builtin; refine wpList_appY elmP gP_one rfl (.tmp 28) (.tmp 36) rfl (.slice B out.length d) out rfl (HO.out.alloc _) [(xt, v)] y HY rfl (Sl.fresh wr #[_, _] 26 2 1 rfl) rfl (by simp only [maxLen]; omega) (by omega) ?_; intro A4 c4 w4 hc4 hc5 HN1 _ _)
        go_roundw
        case rel => exact ⟨k + 1, _, A4, c4, by omega, by go_num, rfl, rfl, hc4, by unfold maxLen at hc5; omega, HSM, HN1.out⟩
        case measure => simp [intOf]; omega
      · have i2 : decide ((0 : Int) < (k : Int)) = true := decide_eq_true (by omega)
        have i3 : 0 < k := by omega
        have HS' := HS.out
        unfold up1 at HS'
        rw [if_neg (by show ¬ out.length = 0; rw [HV1.out]; exact hk0)] at HS'
        obtain ⟨y, hy⟩ : ∃ y, out ++ [(xt, v + xv)] = y := ⟨_, rfl⟩
        have hyl : y.length ≤ 1002 := by rw [← hy]; simp; omega
        have HY := hid hy
        simp only at HS'
        rw [hy] at HS'
        have HSM := hid HS'
        clear HS HS' hy hk0
        go_wp2_with (at_builtin; refine wpList_appY elmP gP_one rfl (.tmp 28) (.tmp 36) rfl (.slice B out.length d) out rfl (HO.out.alloc _) [(xt, v + xv)] y HY rfl (Sl.fresh wr #[_, _] 26 2 1 rfl) rfl (by simp only [maxLen]; omega) (by omega) ?_; intro A4 c4 w4 hc4 hc5 HN1 _ _)
        go_roundw
        case rel => exact ⟨k + 1, _, A4, c4, by omega, by go_num, rfl, rfl, hc4, by unfold maxLen at hc5; omega, HSM, HN1.out⟩
        case measure => simp [intOf]; omega
    · obtain rfl : k = m := by omega
      have i1 : ¬ (k : Int) < (k : Int) := by omega
      have est : upSt s = (v, out) := by rw [← HST.out, List.take_of_length_le (by rw [HM.out]; exact Nat.le_refl _)]
      have hinv := upSt_inv s HV.out
      have hnu := upSt_near s HI.out (by rw [HM.out]; omega) HV.out
      rw [est] at hinv hnu
      obtain ⟨_, _, _, _, h5, _⟩ := hinv
      simp only at hnu h5
      rw [HM.out] at h5
      have hb := (h5 (by omega)).2
      have hge := rise_ge s HV.out (k - 1) (by rw [HM.out]; omega)
      have hbd := prs_bd dRise s HI.out dRise_bd (k - 1) (by rw [HM.out]; omega)
      have HNU := hid hnu; have HBB := hid hb
      obtain ⟨X, hX⟩ : ∃ X, prs dRise s (k - 1) = X := ⟨_, rfl⟩
      rw [hX] at hge hbd
      have HXX := hid hX
      obtain ⟨ad, x0, rfl, hx0, c0, c2⟩ := (HO1.out.step HO.out.below).sl.atS (k := 0) (by omega)
      obtain ⟨ad', x1, ha', hx1, d0, d2⟩ := (HO1.out.step HO.out.below).sl.atS (k := k - 1) (by omega)
      injection ha' with ha'; subst ad'
      rw [show s.getD (k - 1) (0, 0) = x1 by rw [List.getD_eq_getElem?_getD, hx1]; rfl, show s.getD 0 (0, 0) = x0 by rw [List.getD_eq_getElem?_getD, hx0]; rfl] at hge
      have hv0 := HV.out x0 (List.mem_of_getElem? hx0)
      have hv1 := HV.out x1 (List.mem_of_getElem? hx1)
      obtain ⟨xt, xv⟩ := x0
      obtain ⟨yt, yv⟩ := x1
      simp only at c0 c2 d0 d2 hge hv0 hv1
      have t1 : decide (yv - xv ≤ X) = true := decide_eq_true hge.1
      have t2 : decide (0 ≤ X) = true := decide_eq_true hge.2
      have t3 := beqT (show v - 7 = v - 7 from rfl)
      have C2 := hid c2; have D2 := hid d2
      have HBO := hid HO.out.below
      clear hx0 hx1 hge hbd hX h5 hb hnu est c0 c2 d0 d2
      go_wp2_with fail
      refine (rate_Rise (some ad) k c1 s wr (by omega) (HO1.out.step HO.out.below).sl HI.out ((HT.out.below HO1.out.below).below HO.out.below)).mono ?_
      rw [HXX.out]
      rintro e w4 ⟨rfl, hb4⟩
      have HB4 := hid (bgo' hb4 HO.out.below)
      have HO4 := hid (HO.out.step hb4)
      have C24 := hid (cell_below hb4 C2.out); have D24 := hid (cell_below hb4 D2.out)
      clear hb4
      have HLE := hid (show s.length = out.length by rw [HM.out, ← HV1.out])
      go_wp2_with fail
      rw [HLE.out]
      refine (rate_Rise B out.length d out w4 (by omega) HO4.out.sl HNU.out ((HT.out.below HO1.out.below).below HB4.out)).mono ?_
      rw [show prs dRise out (out.length - 1) = v - 7 by rw [HV1.out]; exact HBB.out]
      rintro e w5 ⟨rfl, hb5⟩
      have HB5 := hid (bgo' hb5 HB4.out)
      have c2 : w5.cell? ⟨ad.block, ad.off + 1, none⟩ = some (.int .i64 xv) := by have := cell_below hb5 C24.out; simpa [Addr.add] using this
      have d2 := cell_below hb5 D24.out
      clear hb5
      have j1 : IntKind.i64.wrap ((k : Int) - 1) = (k : Int) - 1 := IntWalk.i64_in _ (by omega)
      have j3 : (0 : Int) ≤ (k : Int) - 1 := by omega
      have j4 : (k : Int) - 1 < (k : Int) := by omega
      have j5 : ((k : Int) - 1).toNat = k - 1 := by omega
      have j6 : 0 < k := by omega
      have j7 : (0 : Int) < (k : Int) := by omega
      have j8 : wrap64 ((k : Int) - 1) = (k : Int) - 1 := IntWalk.wrap64_in _ ⟨by omega, by omega⟩
      have j9 : (1 : Int) ≤ (k : Int) := by omega
      have c3 : w5.cell? ⟨(ad.add (0 * 2)).block, (ad.add (0 * 2)).off + 1, none⟩ = some (.int .i64 xv) := cell_below (bgo' (bnil _) (bnil _)) (by have := c2; simpa [Addr.add] using this)
      go_wp2_with fail
      go_quiet (fail)
      go_wp2
      go_ret
      exact ⟨rfl, below_drewN (bgo' HB5.out HO1.out.below) _⟩
end Go.Proofs.YtpoaomjpbjcmbaaDoor
