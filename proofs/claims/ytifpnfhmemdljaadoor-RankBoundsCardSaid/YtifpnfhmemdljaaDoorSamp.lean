/-
  Samples out of dots: the walk of Samples.
-/
import Derived.Test.YtifpnfhmemdljaaDoorNum
import Derived.Test.YtifpnfhmemdljaaDoorRow
namespace Go.Proofs.YtifpnfhmemdljaaDoor
open Go.RowKit
set_option linter.unusedVariables false

abbrev gP : Int × Int → List Value := fun s => [.int .i64 s.1, .int .i64 s.2]
theorem gP_one (x : Int × Int) : ∀ u ∈ gP x, u.oneCell' = true := by intro u hu; simp at hu; rcases hu with rfl | rfl <;> rfl
abbrev gD : Int × Int × Bool → List Value := fun d => [.int .i64 d.1, .int .i64 d.2.1, .bool d.2.2]
theorem elmP : Elm Tryd.prog 23 26 2 16 := elm_of (z := .agg #[.int .i64 0, .int .i64 0]) Tryd.underlying23 (by kernel_rfl) rfl (by decide)
def DotOk (d : Int × Int × Bool) : Prop := -9223372036854775808 ≤ d.1 ∧ d.1 ≤ 9223372036854775807 ∧ -9223372036854775808 ≤ d.2.1 ∧ d.2.1 ≤ 9223372036854775807
def dStep (d : Int × Int × Bool) : Int := if d.2.2 = true then 1 + (pk d.1 1099511627776 : Int) else 1 + (pk d.1 100 : Int)
def dVal (d : Int × Int × Bool) : Int := if d.2.2 = true then d.2.1 / 512 else (pk d.2.1 1000 : Int) - 500
def smp1 (s : Int × List (Int × Int)) (d : Int × Int × Bool) : Int × List (Int × Int) :=
  if 18014398509481984 < s.1 then (-18014398509481984 + dStep d, [(-18014398509481984, dVal d)]) else (s.1 + dStep d, s.2 ++ [(s.1, dVal d)])
def smpSt (l : List (Int × Int × Bool)) (first : Int) : Int × List (Int × Int) := l.foldl smp1 (first / 512, [])
def smps (l : List (Int × Int × Bool)) (first : Int) (n : Nat) : List (Int × Int) := (smpSt (l.take n) first).2
theorem smpSt_snoc (l : List (Int × Int × Bool)) (first : Int) (d : Int × Int × Bool) : smpSt (l ++ [d]) first = smp1 (smpSt l first) d := by unfold smpSt; rw [List.foldl_append]; rfl
theorem dStep_bd (d : Int × Int × Bool) : 1 ≤ dStep d ∧ dStep d ≤ 1099511627776 := by
  unfold dStep
  have h1 := pk_lt d.1 1099511627776 (by decide)
  have h2 := pk_lt d.1 100 (by decide)
  split <;> omega
theorem dVal_bd (d : Int × Int × Bool) (h : DotOk d) : -18014398509481984 ≤ dVal d ∧ dVal d ≤ 18014398509481984 := by
  unfold dVal
  unfold DotOk at h
  have h2 := pk_lt d.2.1 1000 (by decide)
  split <;> omega
/-- samples that come after each other, near enough to 0 -/
structure SmpsIn (l : List (Int × Int)) : Prop where
  bd : ∀ x ∈ l, -18014398509481984 ≤ x.1 ∧ x.1 ≤ 18014398509481984 ∧ -18014398509481984 ≤ x.2 ∧ x.2 ≤ 18014398509481984
  up : ∀ (k : Nat) (x y : Int × Int), l[k]? = some x → l[k + 1]? = some y → x.1 < y.1
theorem SmpsIn.snoc {l : List (Int × Int)} (h : SmpsIn l) {y : Int × Int} (hb : -18014398509481984 ≤ y.1 ∧ y.1 ≤ 18014398509481984 ∧ -18014398509481984 ≤ y.2 ∧ y.2 ≤ 18014398509481984) (hu : ∀ x ∈ l, x.1 < y.1) : SmpsIn (l ++ [y]) := by
  refine ⟨fun x hx => ?_, fun k x z hx hz => ?_⟩
  · rcases List.mem_append.1 hx with h1 | h1
    · exact h.bd x h1
    · simp at h1; subst h1; exact hb
  · by_cases hk : k + 1 < l.length
    · rw [List.getElem?_append_left (by omega)] at hx
      rw [List.getElem?_append_left hk] at hz
      exact h.up k x z hx hz
    · have hk2 : k + 1 = l.length := by
        have := (List.getElem?_eq_some_iff.1 hz).1; simp at this; omega
      rw [List.getElem?_append_left (by omega)] at hx
      rw [List.getElem?_append_right (by omega), hk2, Nat.sub_self] at hz
      simp at hz; subst hz
      exact hu x (List.mem_of_getElem? hx)
theorem smpSt_inv (first : Int) (hf : -9223372036854775808 ≤ first) (hf1 : first ≤ 9223372036854775807) (l : List (Int × Int × Bool)) (hl : ∀ d ∈ l, DotOk d) :
    -18014398509481984 ≤ (smpSt l first).1 ∧ (smpSt l first).1 ≤ 18015498021109760 ∧ SmpsIn (smpSt l first).2 ∧ (∀ x ∈ (smpSt l first).2, x.1 < (smpSt l first).1) ∧ (smpSt l first).2.length ≤ l.length := by
  have H : ∀ n, ∀ l : List (Int × Int × Bool), l.length = n → (∀ d ∈ l, DotOk d) → -18014398509481984 ≤ (smpSt l first).1 ∧ (smpSt l first).1 ≤ 18015498021109760 ∧ SmpsIn (smpSt l first).2 ∧ (∀ x ∈ (smpSt l first).2, x.1 < (smpSt l first).1) ∧ (smpSt l first).2.length ≤ l.length := by
    intro n
    induction n with
    | zero =>
      intro l hn _
      rw [List.eq_nil_of_length_eq_zero hn]
      simp only [smpSt, List.foldl_nil]
      exact ⟨by omega, by omega, ⟨by simp, by simp⟩, by simp, by simp⟩
    | succ n ih =>
      intro l hn hl
      obtain ⟨m, d, rfl⟩ : ∃ m d, l = m ++ [d] := ⟨l.take n, l[n], by rw [List.take_append_getElem, List.take_of_length_le (by omega)]⟩
      obtain ⟨h1, h2, h3, h4, h5⟩ := ih m (by simp at hn; omega) fun d hd => hl d (by simp [hd])
      have hd := hl d (by simp)
      have hs := dStep_bd d
      have hv := dVal_bd d hd
      rw [smpSt_snoc]
      unfold smp1
      split
      · refine ⟨by simp only; omega, by simp only; omega, ?_, ?_, by simp⟩
        · have := SmpsIn.snoc (l := []) ⟨by simp, by simp⟩ (y := (-18014398509481984, dVal d)) ⟨by simp, by simp, hv.1, hv.2⟩ (by simp)
          exact this
        · intro x hx; simp at hx; subst hx; simp only; omega
      · refine ⟨by simp only; omega, by simp only; omega, ?_, ?_, by simp; omega⟩
        · exact SmpsIn.snoc h3 ⟨by simp only; omega, by simp only; omega, hv.1, hv.2⟩ h4
        · intro x hx
          rcases List.mem_append.1 hx with h6 | h6
          · have := h4 x h6; simp only; omega
          · simp at h6; subst h6; simp only; omega
  exact H _ l rfl hl
theorem smps_in (first : Int) (hf : -9223372036854775808 ≤ first) (hf1 : first ≤ 9223372036854775807) (l : List (Int × Int × Bool)) (hl : ∀ d ∈ l, DotOk d) (n : Nat) : SmpsIn (smps l first n) ∧ (smps l first n).length ≤ n := by
  have h := smpSt_inv first hf hf1 (l.take n) fun d hd => hl d (List.mem_of_mem_take hd)
  exact ⟨h.2.2.1, by have := h.2.2.2.2; unfold smps; rw [List.length_take] at this; omega⟩
theorem Sl.atD {w : World} {A : Option Addr} {n k : Nat} {l : List (Int × Int × Bool)} (h : Sl w 3 A n (l.flatMap gD)) (hk : k < n) :
    ∃ ad d, A = some ad ∧ l[k]? = some d ∧ w.cell? (ad.add (k * 3)) = some (.int .i64 d.1) ∧ w.cell? ⟨(ad.add (k * 3)).block, (ad.add (k * 3)).off + 1, none⟩ = some (.int .i64 d.2.1) ∧ w.cell? ⟨(ad.add (k * 3)).block, (ad.add (k * 3)).off + 2, none⟩ = some (.bool d.2.2) := by
  obtain ⟨ad, e, hc⟩ := h.2 (by omega)
  have hl : k < l.length := by have := h.1; rw [flatMap_len gD 3 (fun _ => rfl)] at this; omega
  have hx : l[k]? = some l[k] := List.getElem?_eq_getElem hl
  exact ⟨ad, l[k], e, hx, hc (k * 3 + 0) _ (flatMap_at gD 3 (fun _ => rfl) l k 0 _ hx (by decide)), cell_next (by decide) (hc (k * 3 + 1) _ (flatMap_at gD 3 (fun _ => rfl) l k 1 _ hx (by decide))), cell_next (by decide) (hc (k * 3 + 2) _ (flatMap_at gD 3 (fun _ => rfl) l k 2 _ hx (by decide)))⟩

set_option maxRecDepth 100000 in
set_option maxHeartbeats 2000000 in
theorem samples (A : Option Addr) (n c : Nat) (l : List (Int × Int × Bool)) (first : Int) (m : Nat) (w : World) (hn : n ≤ c) (hc : c ≤ maxLen) (h : Sl w 3 A n (l.flatMap gD)) (hd : ∀ d ∈ l, DotOk d) (hf : -9223372036854775808 ≤ first) (hf1 : first ≤ 9223372036854775807) (hm : m ≤ 1000) :
    Calls Tryd.prog 4 #[.slice A n c, .int .i64 first, .int .i64 (m : Int)] w fun e w' => ∃ v, e = .returned v ∧ Ow w w' 26 2 gP v (smps l first m) := by
  have H := hid h; have HD := hid hd
  have HL := hid (show l.length = n by have := h.1; rw [flatMap_len gD 3 (fun _ => rfl)] at this; omega)
  clear h hd
  unfold maxLen at hc
  have hfa : -18014398509481984 ≤ first / 512 := by omega
  have hfb : first / 512 ≤ 18014398509481983 := by omega
  go_enter Tryd.func4, Tryd.ntmps4
  go_wp2
  go_loopw [7, 8, 9] (fun t v i wr => ∃ (k : Nat) (st : Int × List (Int × Int)) (A1 : Option Addr) (c1 : Nat), k ≤ n ∧ k ≤ m ∧ i = .int .i64 k ∧ t = .int .i64 st.1 ∧ v = .slice A1 st.2.length c1 ∧ st.2.length ≤ c1 ∧ c1 ≤ 9223372036854775807 ∧ Hid (smpSt (l.take k) first = st) ∧ Ow w wr 26 2 gP v st.2) (fun _ _ i _ => n - (intOf i).toNat)
  case atStart => exact ⟨0, (first / 512, []), none, 0, Nat.zero_le _, Nat.zero_le _, rfl, rfl, rfl, by simp, by simp, hid rfl, Ow.nil _ _ _ _⟩
  case round =>
    obtain ⟨k, ⟨t, out⟩, A1, c1, hk, hkm, rfl, rfl, rfl, hc1, hc2, HST, ho⟩ := hrel
    simp only at hc1 ho ⊢
    have HO := hid ho; clear ho
    have hinv := smpSt_inv first hf hf1 (l.take k) fun d hd => HD.out d (List.mem_of_mem_take hd)
    rw [HST.out] at hinv
    obtain ⟨hv1, hv2, _, _, hv5⟩ := hinv
    simp only at hv1 hv2 hv5
    have hv6 : out.length ≤ 1000 := by rw [List.length_take] at hv5; omega
    by_cases hlt : k < n
    · by_cases hlm : k < m
      · obtain ⟨ad, d, rfl, hdk, c0, c2, c3⟩ := (H.out.below HO.out.below).atD hlt
        have hdo := HD.out d (List.mem_of_getElem? hdk)
        have HS := hid (show smpSt (l.take (k + 1)) first = smp1 (t, out) d by rw [take_next hdk, smpSt_snoc, HST.out])
        obtain ⟨ds, dv, dw⟩ := d
        unfold DotOk at hdo
        simp only at hdo c0 c2 c3
        obtain ⟨d1, d2, d3, d4⟩ := hdo
        have q1 := pk_lt ds 100 (by decide)
        have q2 := pk_lt ds 1099511627776 (by decide)
        have q3 := pk_lt dv 1000 (by decide)
        obtain ⟨p1, hp1⟩ : ∃ p1, pk ds 100 = p1 := ⟨_, rfl⟩
        obtain ⟨p2, hp2⟩ : ∃ p1, pk ds 1099511627776 = p1 := ⟨_, rfl⟩
        obtain ⟨p3, hp3⟩ : ∃ p1, pk dv 1000 = p1 := ⟨_, rfl⟩
        rw [hp1] at q1; rw [hp2] at q2; rw [hp3] at q3
        have i1 : (k : Int) < (n : Int) := by omega
        have i2 : (k : Int) < (m : Int) := by omega
        have HS2 : Hid (∃ S V, smp1 (t, out) (ds, dv, dw) = (if 18014398509481984 < t then (-18014398509481984 + S, [(-18014398509481984, V)]) else (t + S, out ++ [(t, V)])) ∧ S = (if dw = true then 1 + (p2 : Int) else 1 + (p1 : Int)) ∧ V = if dw = true then dv / 512 else (p3 : Int) - 500) :=
          ⟨dStep (ds, dv, dw), dVal (ds, dv, dw), rfl, by rw [← hp1, ← hp2]; rfl, by rw [← hp3]; rfl⟩
        obtain ⟨S, V, hsm, hS, hV⟩ := HS2
        have HSM := hid (HS.out.trans hsm)
        have HP1 := hid hp1; have HP2 := hid hp2; have HP3 := hid hp3
        clear hdk HS hsm hp1 hp2 hp3
        have hS1 : 1 ≤ S := by rw [hS]; split <;> omega
        have hS2 : S ≤ 1099511627776 := by rw [hS]; split <;> omega
        have hV1 : -18014398509481984 ≤ V := by rw [hV]; split <;> omega
        have hV2 : V ≤ 18014398509481984 := by rw [hV]; split <;> omega
        have HSV := hid (And.intro hS hV)
        clear hS hV
        cases dw
        · have HSV' := HSV.out
          first | rw [if_pos rfl, if_pos rfl] at HSV' | rw [if_neg (by decide), if_neg (by decide)] at HSV'
          obtain ⟨hS, hV⟩ := HSV'
          have HSS := hid hS; have HVV := hid hV
          clear HSV hS hV
          go_wp2_with fail
          refine (picked ds _ wr (by omega) d1 d2 (by omega)).mono ?_
          rintro e wr ⟨rfl, rfl⟩
          rw [HP1.out]
          go_wp2_with fail
          refine (picked dv _ wr (by omega) d3 d4 (by omega)).mono ?_
          rintro e wr ⟨rfl, rfl⟩
          rw [HP3.out]
          by_cases hT : 18014398509481984 < t
          · have HSM' := HSM.out
            rw [if_pos hT] at HSM'
            have hT2 := hT
            have HSM2 := hid HSM'
            clear HSM HSM' HP1 HP2 HP3
            go_wp2_with (at_builtin; refine wpList_appY elmP gP_one rfl (.tmp 59) (.tmp 63) rfl (.slice none 0 0) [] rfl (Ow.nil' (bnew HO.out.below _) _ _ _) [(-18014398509481984, V)] [(-18014398509481984, V)] (hid (List.nil_append _)) rfl (by rw [HVV.out]; exact Sl.fresh wr #[_, _] 26 2 1 rfl) rfl (by simp [maxLen]) (by simp) ?_; intro A4 c4 w4 hc4 hc5 HN1 _ _)
            go_roundw
            case rel => exact ⟨k + 1, _, A4, c4, by omega, by omega, by go_num, congrArg (Value.int .i64) (by show _ = _ + S; rw [HSS.out]), rfl, hc4, by unfold maxLen at hc5; omega, HSM2, HN1.out⟩
            case measure => simp [intOf]; omega
          · have HSM' := HSM.out
            rw [if_neg hT] at HSM'
            have hTb : decide ((18014398509481984 : Int) < t) = false := decide_eq_false hT
            have het : IntKind.i64.wrap (t + (1 + (p1 : Int))) = t + (1 + (p1 : Int)) := IntWalk.i64_in _ (by omega)
            clear hT hv1 hv2 hS1 hS2 hV1 hV2
            have HSM2 := hid HSM'
            clear HSM HSM' HP1 HP2 HP3
            obtain ⟨y, hy⟩ : ∃ y, out ++ [(t, V)] = y := ⟨_, rfl⟩
            have hyl : y.length ≤ 1001 := by rw [← hy]; simp; omega
            have HY := hid hy
            rw [hy] at HSM2
            clear hy
            go_wp2_with (at_builtin; refine wpList_appY elmP gP_one rfl (.tmp 59) (.tmp 63) rfl (.slice A1 out.length c1) out rfl (HO.out.alloc _) [(t, V)] y HY rfl (by rw [HVV.out]; exact Sl.fresh wr #[_, _] 26 2 1 rfl) rfl (by simp only [maxLen]; omega) (by omega) ?_; intro A4 c4 w4 hc4 hc5 HN1 _ _)
            go_roundw
            case rel => exact ⟨k + 1, _, A4, c4, by omega, by omega, by go_num, congrArg (Value.int .i64) (by show _ = _ + S; rw [HSS.out]), rfl, hc4, by unfold maxLen at hc5; omega, HSM2, HN1.out⟩
            case measure => simp [intOf]; omega
        · have HSV' := HSV.out
          first | rw [if_pos rfl, if_pos rfl] at HSV' | rw [if_neg (by decide), if_neg (by decide)] at HSV'
          obtain ⟨hS, hV⟩ := HSV'
          have HSS := hid hS; have HVV := hid hV
          clear HSV hS hV
          go_wp2_with fail
          refine (picked ds _ wr (by omega) d1 d2 (by omega)).mono ?_
          rintro e wr ⟨rfl, rfl⟩
          rw [HP1.out]
          go_wp2_with fail
          refine (picked dv _ wr (by omega) d3 d4 (by omega)).mono ?_
          rintro e wr ⟨rfl, rfl⟩
          rw [HP3.out]
          go_wp2_with fail
          refine (picked ds _ wr (by omega) d1 d2 (by omega)).mono ?_
          rintro e wr ⟨rfl, rfl⟩
          rw [HP2.out]
          by_cases hT : 18014398509481984 < t
          · have HSM' := HSM.out
            rw [if_pos hT] at HSM'
            have hT2 := hT
            have HSM2 := hid HSM'
            clear HSM HSM' HP1 HP2 HP3
            go_wp2_with (at_builtin; refine wpList_appY elmP gP_one rfl (.tmp 59) (.tmp 63) rfl (.slice none 0 0) [] rfl (Ow.nil' (bnew HO.out.below _) _ _ _) [(-18014398509481984, V)] [(-18014398509481984, V)] (hid (List.nil_append _)) rfl (by rw [HVV.out]; exact Sl.fresh wr #[_, _] 26 2 1 rfl) rfl (by simp [maxLen]) (by simp) ?_; intro A4 c4 w4 hc4 hc5 HN1 _ _)
            go_roundw
            case rel => exact ⟨k + 1, _, A4, c4, by omega, by omega, by go_num, congrArg (Value.int .i64) (by show _ = _ + S; rw [HSS.out]), rfl, hc4, by unfold maxLen at hc5; omega, HSM2, HN1.out⟩
            case measure => simp [intOf]; omega
          · have HSM' := HSM.out
            rw [if_neg hT] at HSM'
            have hTb : decide ((18014398509481984 : Int) < t) = false := decide_eq_false hT
            have het : IntKind.i64.wrap (t + (1 + (p2 : Int))) = t + (1 + (p2 : Int)) := IntWalk.i64_in _ (by omega)
            clear hT hv1 hv2 hS1 hS2 hV1 hV2
            have HSM2 := hid HSM'
            clear HSM HSM' HP1 HP2 HP3
            obtain ⟨y, hy⟩ : ∃ y, out ++ [(t, V)] = y := ⟨_, rfl⟩
            have hyl : y.length ≤ 1001 := by rw [← hy]; simp; omega
            have HY := hid hy
            rw [hy] at HSM2
            clear hy
            go_wp2_with (at_builtin; refine wpList_appY elmP gP_one rfl (.tmp 59) (.tmp 63) rfl (.slice A1 out.length c1) out rfl (HO.out.alloc _) [(t, V)] y HY rfl (by rw [HVV.out]; exact Sl.fresh wr #[_, _] 26 2 1 rfl) rfl (by simp only [maxLen]; omega) (by omega) ?_; intro A4 c4 w4 hc4 hc5 HN1 _ _)
            go_roundw
            case rel => exact ⟨k + 1, _, A4, c4, by omega, by omega, by go_num, congrArg (Value.int .i64) (by show _ = _ + S; rw [HSS.out]), rfl, hc4, by unfold maxLen at hc5; omega, HSM2, HN1.out⟩
            case measure => simp [intOf]; omega
      · have hkm' : k = m := by omega
        have i1 : (k : Int) < (n : Int) := by omega
        have i2 : ¬ (k : Int) < (m : Int) := by omega
        have E := hid (show smps l first m = out by unfold smps; rw [← hkm', HST.out])
        clear hkm'
        go_wp2
        go_ret
        rw [E.out]
        exact ⟨_, rfl, HO.out⟩
    · have hkn : k = n := by omega
      have i1 : ¬ (k : Int) < (n : Int) := by omega
      have E := hid (show smps l first m = out by unfold smps; rw [show l.take m = l.take k by rw [List.take_of_length_le (by rw [HL.out]; omega), List.take_of_length_le (by rw [HL.out]; omega)], HST.out])
      clear hkn
      go_wp2
      go_ret
      rw [E.out]
      exact ⟨_, rfl, HO.out⟩
end Go.Proofs.YtifpnfhmemdljaaDoor
