/-
  Package rate: near, fault; Near of the laws: their walks.
-/
import Derived.Test.YtpoaomjpbjcmbaaDoorChunk
import Derived.Test.YtpoaomjpbjcmbaaDoorSamp
namespace Go.Proofs.YtpoaomjpbjcmbaaDoor
open Go.RowKit
set_option linter.unusedVariables false

/-- samples near to 0 that come after each other -/
structure NearIn (l : List (Int × Int)) : Prop where
  bd : ∀ x ∈ l, -16777216 ≤ x.1 ∧ x.1 ≤ 16777216 ∧ -16777216 ≤ x.2 ∧ x.2 ≤ 16777216
  up : ∀ (k : Nat) (x y : Int × Int), l[k]? = some x → l[k + 1]? = some y → x.1 < y.1
theorem NearIn.ok {l : List (Int × Int)} (h : NearIn l) : SmpsOk l := ⟨fun x hx => by have := h.bd x hx; unfold SmpOk; omega, h.up⟩
theorem rate_near (x : Int) (w : World) (h1 : -16777216 ≤ x) (h2 : x ≤ 16777216) :
    Calls Tryd.prog 57 #[.int .i64 x] w fun e w' => e = .returned (.bool true) ∧ w = w' := by
  have e1 : decide ((-16777216 : Int) ≤ x) = true := decide_eq_true h1
  have e2 : decide (x ≤ (16777216 : Int)) = true := decide_eq_true h2
  clear h1 h2
  go_enter Tryd.func57, Tryd.ntmps57
  go_wp2
  go_ret
  exact ⟨rfl, rfl⟩
set_option maxHeartbeats 1000000 in
theorem rate_fault (A : Option Addr) (n c : Nat) (l : List (Int × Int)) (w : World) (hn : n ≤ 120) (h : Sl w 2 A n (l.flatMap gP)) (hl : NearIn l) (ht : ZTab w) :
    Calls Tryd.prog 39 #[.slice A n c] w fun e w' => e = .returned (.int .i64 0) ∧ Below w.heap.size w w' := by
  have H := hid h; have HI := hid hl; have HT := hid ht; clear h hl ht
  go_enter Tryd.func39, Tryd.ntmps39
  go_wp2_with fail
  refine (ck_encode A n c l w hn H.out HI.out.ok HT.out).mono ?_
  rintro e w2 ⟨v2, rfl, ho2⟩
  have HB2 := hid ho2.below
  clear ho2
  go_wp2
  go_loopw [17] (fun i wr => ∃ (k : Nat), k ≤ n ∧ i = .int .i64 k ∧ Below w.heap.size w wr) (fun i _ => n - (intOf i).toNat)
  case atStart => exact ⟨0, Nat.zero_le _, rfl, HB2.out⟩
  case round =>
    obtain ⟨k, hk, rfl, hb⟩ := hrel
    have HB := hid hb; clear hb
    by_cases hlt : k < n
    · obtain ⟨ad, x, rfl, hx, c0, c1⟩ := (H.out.below HB.out).atS hlt
      obtain ⟨xt, xv⟩ := x
      simp only at c0 c1
      obtain ⟨b1, b2, b3, b4⟩ := HI.out.bd _ (List.mem_of_getElem? hx)
      simp only at b1 b2 b3 b4
      have C1 := fun W => hid (rate_near xt W b1 b2)
      have C2 := fun W => hid (rate_near xv W b3 b4)
      have i1 : (k : Int) < (n : Int) := by omega
      clear hx b1 b2 b3 b4
      go_wp2_with fail
      refine (C1 _).out.mono ?_
      rintro e w3 ⟨rfl, rfl⟩
      go_wp2_with fail
      refine (C2 _).out.mono ?_
      rintro e w3 ⟨rfl, rfl⟩
      go_wp2
      go_roundw
      case rel => exact ⟨k + 1, by omega, by go_num, bnew HB.out _⟩
      case measure => simp [intOf]; omega
    · have i1 : ¬ (k : Int) < (n : Int) := by omega
      go_wp2
      go_ret
      exact ⟨rfl, HB.out⟩

/-! ### Near -/
def nr1 (s : Int × List (Int × Int)) (d : Int × Int × Bool) : Int × List (Int × Int) :=
  (s.1 + (1 + (pk d.1 100 : Int)), s.2 ++ [(s.1 + (1 + (pk d.1 100 : Int)), (pk d.2.1 1000 : Int))])
def nrSt (l : List (Int × Int × Bool)) : Int × List (Int × Int) := l.foldl nr1 (-50, [(-50, 7)])
def nears (l : List (Int × Int × Bool)) (n : Nat) : List (Int × Int) := (nrSt (l.take n)).2 ++ [((nrSt (l.take n)).1 + 9, 12)]
theorem nrSt_snoc (l : List (Int × Int × Bool)) (d : Int × Int × Bool) : nrSt (l ++ [d]) = nr1 (nrSt l) d := by unfold nrSt; rw [List.foldl_append]; rfl
theorem NearIn.snoc {l : List (Int × Int)} (h : NearIn l) {y : Int × Int} (hb : -16777216 ≤ y.1 ∧ y.1 ≤ 16777216 ∧ -16777216 ≤ y.2 ∧ y.2 ≤ 16777216) (hu : ∀ x ∈ l, x.1 < y.1) : NearIn (l ++ [y]) := by
  refine ⟨fun x hx => ?_, fun k x z hx hz => ?_⟩
  · rcases List.mem_append.1 hx with h1 | h1
    · exact h.bd x h1
    · simp at h1; subst h1; exact hb
  · by_cases hk : k + 1 < l.length
    · rw [List.getElem?_append_left (by omega)] at hx
      rw [List.getElem?_append_left hk] at hz
      exact h.up k x z hx hz
    · have hk2 : k + 1 = l.length := by
        have := (List.getElem?_eq_some_iff.1 hz).1; simp at this; omega
      rw [List.getElem?_append_left (by omega)] at hx
      rw [List.getElem?_append_right (by omega), hk2, Nat.sub_self] at hz
      simp at hz; subst hz
      exact hu x (List.mem_of_getElem? hx)
theorem nrSt_inv (l : List (Int × Int × Bool)) (hl : l.length ≤ 1000) : (∃ vs, (nrSt l).2 = (-50, 7) :: vs) ∧ -50 ≤ (nrSt l).1 ∧ (nrSt l).1 ≤ -50 + 100 * (l.length : Int) ∧ NearIn (nrSt l).2 ∧ (∀ x ∈ (nrSt l).2, x.1 ≤ (nrSt l).1 ∧ 0 ≤ x.2 ∧ x.2 ≤ 1000) ∧ (nrSt l).2.length = l.length + 1 := by
  have H : ∀ n, ∀ l : List (Int × Int × Bool), l.length = n → n ≤ 1000 → (∃ vs, (nrSt l).2 = (-50, 7) :: vs) ∧ -50 ≤ (nrSt l).1 ∧ (nrSt l).1 ≤ -50 + 100 * (l.length : Int) ∧ NearIn (nrSt l).2 ∧ (∀ x ∈ (nrSt l).2, x.1 ≤ (nrSt l).1 ∧ 0 ≤ x.2 ∧ x.2 ≤ 1000) ∧ (nrSt l).2.length = l.length + 1 := by
    intro n
    induction n with
    | zero =>
      intro l hn _
      rw [List.eq_nil_of_length_eq_zero hn]
      simp only [nrSt, List.foldl_nil]
      refine ⟨⟨[], rfl⟩, by omega, by simp, ⟨by simp, ?_⟩, by simp, by simp⟩
      intro k x y hx hy
      simp at hy
    | succ n ih =>
      intro l hn hle
      obtain ⟨m, d, rfl⟩ : ∃ m d, l = m ++ [d] := ⟨l.take n, l[n], by rw [List.take_append_getElem, List.take_of_length_le (by omega)]⟩
      obtain ⟨⟨vs, h0⟩, h1, h2, h3, h4, h5⟩ := ih m (by simp at hn; omega) (by omega)
      have q1 := pk_lt d.1 100 (by decide)
      have q2 := pk_lt d.2.1 1000 (by decide)
      have hml : m.length ≤ 1000 := by simp at hn; omega
      rw [nrSt_snoc]
      unfold nr1
      simp only [List.length_append, List.length_singleton]
      refine ⟨⟨vs ++ [_], by rw [h0]; rfl⟩, by omega, by omega, ?_, ?_, by omega⟩
      · exact h3.snoc ⟨by simp only; omega, by simp only; omega, by simp only; omega, by simp only; omega⟩ fun x hx => by have := (h4 x hx).1; simp only; omega
      · intro x hx
        rcases List.mem_append.1 hx with h6 | h6
        · have := h4 x h6; omega
        · simp at h6; subst h6; simp only; omega
  exact H _ l rfl hl
theorem nears_in (l : List (Int × Int × Bool)) (n : Nat) (hn : n ≤ 1000) : NearIn (nears l n) ∧ (nears l n).length = min n l.length + 2 ∧ (∀ x ∈ nears l n, -50 ≤ x.1 ∧ 0 ≤ x.2 ∧ x.2 ≤ 1000) ∧ ∃ vs, nears l n = (-50, 7) :: vs := by
  have hl : (l.take n).length ≤ 1000 := by rw [List.length_take]; omega
  obtain ⟨⟨vs, h0⟩, h1, h2, h3, h4, h5⟩ := nrSt_inv (l.take n) hl
  have hl2 : ((l.take n).length : Int) ≤ 1000 := by omega
  refine ⟨?_, ?_, ?_, ?_⟩
  · unfold nears
    exact h3.snoc ⟨by simp only; omega, by simp only; omega, by simp, by simp⟩ fun x hx => by have := (h4 x hx).1; simp only; omega
  · unfold nears; rw [List.length_append, h5, List.length_take]; simp
  · intro x hx
    unfold nears at hx
    rcases List.mem_append.1 hx with h6 | h6
    · have h7 := h4 x h6
      refine ⟨?_, h7.2⟩
      obtain ⟨i, hi, rfl⟩ := List.getElem_of_mem h6
      have hup : ∀ i, ∀ (hi : i < (nrSt (l.take n)).2.length), -50 ≤ ((nrSt (l.take n)).2[i]).1 := by
        intro i
        induction i with
        | zero => intro hi; simp only [h0, List.getElem_cons_zero]; omega
        | succ i ih =>
          intro hi
          have := ih (by omega)
          have h8 := h3.up i _ _ (List.getElem?_eq_getElem (by omega)) (List.getElem?_eq_getElem hi)
          omega
      exact hup i hi
    · simp at h6; subst h6; simp only; omega
  · exact ⟨vs ++ [((nrSt (l.take n)).1 + 9, 12)], by unfold nears; rw [h0]; rfl⟩
set_option maxHeartbeats 2000000 in
theorem near_of (A : Option Addr) (n c : Nat) (l : List (Int × Int × Bool)) (m : Nat) (w : World) (hn : n ≤ c) (hc : c ≤ maxLen) (h : Sl w 3 A n (l.flatMap gD)) (hd : ∀ d ∈ l, DotOk d) (hm : m ≤ 1000) :
    Calls Tryd.prog 19 #[.slice A n c, .int .i64 (m : Int)] w fun e w' => ∃ v, e = .returned v ∧ Ow w w' 26 2 gP v (nears l m) := by
  have H := hid h; have HD := hid hd
  have HL := hid (show l.length = n by have := h.1; rw [flatMap_len gD 3 (fun _ => rfl)] at this; omega)
  clear h hd
  unfold maxLen at hc
  have H0 := hid (⟨⟨rfl, .inr ⟨w.heap.size, 1, #[.int .i64 (-50), .int .i64 7], rfl, Nat.le_refl _, Blk.new w _ _, Nat.le_refl _, by simp [maxLen], rfl, rfl⟩⟩, bnew (bnil w) _⟩ : Ow w (w.alloc (.cells #[.int .i64 (-50), .int .i64 7] 26)) 26 2 gP (.slice (some ⟨w.heap.size, 0, none⟩) 1 1) [(-50, 7)])
  go_enter Tryd.func19, Tryd.ntmps19
  go_wp2
  go_loopw [5, 6, 7] (fun v t i wr => ∃ (k : Nat) (st : Int × List (Int × Int)) (A1 : Option Addr) (c1 : Nat), k ≤ n ∧ k ≤ m ∧ i = .int .i64 k ∧ t = .int .i64 st.1 ∧ v = .slice A1 st.2.length c1 ∧ st.2.length ≤ c1 ∧ c1 ≤ 9223372036854775807 ∧ Hid (nrSt (l.take k) = st) ∧ Ow w wr 26 2 gP v st.2) (fun _ _ i _ => n - (intOf i).toNat)
  case atStart => exact ⟨0, (-50, [(-50, 7)]), _, 1, Nat.zero_le _, Nat.zero_le _, rfl, rfl, rfl, by simp, by simp, hid rfl, H0.out⟩
  case round =>
    obtain ⟨k, ⟨t, out⟩, A1, c1, hk, hkm, rfl, rfl, rfl, hc1, hc2, HST, ho⟩ := hrel
    simp only at hc1 ho ⊢
    have HO := hid ho; clear ho
    have hinv := nrSt_inv (l.take k) (by rw [List.length_take]; omega)
    rw [HST.out] at hinv
    obtain ⟨_, hv1, hv2, _, _, hv5⟩ := hinv
    simp only at hv1 hv2 hv5
    rw [List.length_take] at hv2 hv5
    have hv6 : out.length ≤ 1001 := by omega
    have hv7 : t ≤ 100000 := by omega
    clear hv2 hv5
    by_cases hlt : k < n
    · by_cases hlm : k < m
      · obtain ⟨ad, d, rfl, hdk, c0, c2, c3⟩ := (H.out.below HO.out.below).atD hlt
        have hdo := HD.out d (List.mem_of_getElem? hdk)
        have HS := hid (show nrSt (l.take (k + 1)) = nr1 (t, out) d by rw [take_next hdk, nrSt_snoc, HST.out])
        obtain ⟨ds, dv, dw⟩ := d
        unfold DotOk at hdo
        simp only at hdo c0 c2 c3
        obtain ⟨d1, d2, d3, d4⟩ := hdo
        have q1 := pk_lt ds 100 (by decide)
        have q3 := pk_lt dv 1000 (by decide)
        obtain ⟨p1, hp1⟩ : ∃ p1, pk ds 100 = p1 := ⟨_, rfl⟩
        obtain ⟨p3, hp3⟩ : ∃ p1, pk dv 1000 = p1 := ⟨_, rfl⟩
        have HSM := hid (show nrSt (l.take (k + 1)) = (t + (1 + (p1 : Int)), out ++ [(t + (1 + (p1 : Int)), (p3 : Int))]) by rw [HS.out, ← hp1, ← hp3]; rfl)
        rw [hp1] at q1; rw [hp3] at q3
        have i1 : (k : Int) < (n : Int) := by omega
        have i2 : (k : Int) < (m : Int) := by omega
        have HP1 := hid hp1; have HP3 := hid hp3
        obtain ⟨y, hy⟩ : ∃ y, out ++ [(t + (1 + (p1 : Int)), (p3 : Int))] = y := ⟨_, rfl⟩
        have hyl : y.length ≤ 1002 := by rw [← hy]; simp; omega
        have HY := hid hy
        rw [hy] at HSM
        clear hdk HS hp1 hp3 hy
        go_wp2_with fail
        refine (picked ds _ wr (by omega) d1 d2 (by omega)).mono ?_
        rintro e wr ⟨rfl, rfl⟩
        rw [HP1.out]
        go_wp2_with fail
        refine (picked dv _ wr (by omega) d3 d4 (by omega)).mono ?_
        rintro e wr ⟨rfl, rfl⟩
        rw [HP3.out]
        go_wp2_with (at_builtin; refine wpList_appY elmP gP_one rfl (.tmp 30) (.tmp 39) rfl (.slice A1 out.length c1) out rfl (HO.out.alloc _) [(t + (1 + (p1 : Int)), (p3 : Int))] y HY rfl (Sl.fresh wr #[_, _] 26 2 1 rfl) rfl (by simp only [maxLen]; omega) (by omega) ?_; intro A4 c4 w4 hc4 hc5 HN1 _ _)
        go_roundw
        case rel => exact ⟨k + 1, _, A4, c4, by omega, by omega, by go_num, rfl, rfl, hc4, by unfold maxLen at hc5; omega, HSM, HN1.out⟩
        case measure => simp [intOf]; omega
      · have hkm' : k = m := by omega
        have i1 : (k : Int) < (n : Int) := by omega
        have i2 : ¬ (k : Int) < (m : Int) := by omega
        have E := hid (show nears l m = out ++ [(t + 9, 12)] by unfold nears; rw [← hkm', HST.out])
        obtain ⟨y, hy⟩ : ∃ y, out ++ [(t + 9, (12 : Int))] = y := ⟨_, rfl⟩
        have hyl : y.length ≤ 1002 := by rw [← hy]; simp; omega
        have HY := hid hy
        rw [hy] at E
        clear hkm' hy
        go_wp2_with (at_builtin; refine wpList_appY elmP gP_one rfl (.tmp 41) (.tmp 45) rfl (.slice A1 out.length c1) out rfl (HO.out.alloc _) [(t + 9, 12)] y HY rfl (Sl.fresh wr #[_, _] 26 2 1 rfl) rfl (by simp only [maxLen]; omega) (by omega) ?_; intro A4 c4 w4 hc4 hc5 HN1 _ _)
        go_ret
        rw [E.out]
        exact ⟨_, rfl, HN1.out⟩
    · have hkn : k = n := by omega
      have i1 : ¬ (k : Int) < (n : Int) := by omega
      have E := hid (show nears l m = out ++ [(t + 9, 12)] by unfold nears; rw [show l.take m = l.take k by rw [List.take_of_length_le (by rw [HL.out]; omega), List.take_of_length_le (by rw [HL.out]; omega)], HST.out])
      obtain ⟨y, hy⟩ : ∃ y, out ++ [(t + 9, (12 : Int))] = y := ⟨_, rfl⟩
      have hyl : y.length ≤ 1002 := by rw [← hy]; simp; omega
      have HY := hid hy
      rw [hy] at E
      clear hkn hy
      go_wp2_with (at_builtin; refine wpList_appY elmP gP_one rfl (.tmp 41) (.tmp 45) rfl (.slice A1 out.length c1) out rfl (HO.out.alloc _) [(t + 9, 12)] y HY rfl (Sl.fresh wr #[_, _] 26 2 1 rfl) rfl (by simp only [maxLen]; omega) (by omega) ?_; intro A4 c4 w4 hc4 hc5 HN1 _ _)
      go_ret
      rw [E.out]
      exact ⟨_, rfl, HN1.out⟩
end Go.Proofs.YtpoaomjpbjcmbaaDoor
