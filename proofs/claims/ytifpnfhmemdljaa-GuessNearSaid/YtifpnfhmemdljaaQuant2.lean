/-
  quant.bounded, counted, Counts, Join; slices.BinarySearch, Clone: their walks, for lists of few values.
-/
import Derived.Test.YtifpnfhmemdljaaQuant
namespace Go.Proofs.Ytifpnfhmemdljaa
open Go.RowKit
set_option linter.unusedVariables false
theorem quant_bounded (A : Option Addr) (n c : Nat) (l : List Int) (w : World) (h : Sl w 1 A n (ints l)) (hl : BdIn l) :
    Calls Try.prog 15 #[.slice A n c] w fun e w' => e = .returned (.bool true) ∧ Below w.heap.size w w' := by
  have H := hid h; have HI := hid hl
  have HL := hid H.out.leni
  have hn := hl.len
  rw [HL.out] at hn
  clear h hl
  go_enter Try.func15, Try.ntmps15
  go_wp2
  go_loopw [6] (fun i wr => ∃ (k : Nat) (K : Int), k ≤ n ∧ i = .int .i64 K ∧ Hid (K = (k : Int)) ∧ Below w.heap.size w wr) (fun i _ => n - (intOf i).toNat)
  case atStart => exact ⟨0, 0, Nat.zero_le _, rfl, hid rfl, bnil _⟩
  case round =>
    obtain ⟨k, K, hk, rfl, HK, hb⟩ := hrel
    have HB := hid hb; clear hb
    have hKk := HK.out
    by_cases hlt : k < n
    · obtain ⟨ad, y, rfl, hy, c1⟩ := (H.out.below HB.out).ati hlt
      have i1 : K < (n : Int) := by omega
      have i2 : (0 : Int) ≤ K := by omega
      have i3 : K.toNat = k := by omega
      have da : wrap64 (K + 1) = K + 1 := IntWalk.wrap64_in _ ⟨by omega, by omega⟩
      have db : IntKind.i64.wrap (K + 1) = K + 1 := IntWalk.i64_in _ (by omega)
      by_cases hk0 : k = 0
      · have HJ := hid (show ¬ (0 : Int) < K by omega)
        have HJ2 := hid (show decide ((0 : Int) < K) = false from decide_eq_false (by omega))
        clear hk0 hKk
        go_wp2_with fail
        have jz := HJ.out
        have jz2 := HJ2.out
        go_region
        all_goals
          go_wp2
          go_roundw
          case rel => exact ⟨k + 1, K + 1, by omega, rfl, hid (by rw [HK.out]; omega), HB.out.drew⟩
          case measure => (have := HK.out; simp [intOf]; omega)
      · obtain ⟨ad', x, ha', hx, c0⟩ := (H.out.below HB.out).ati (k := k - 1) (by omega)
        injection ha' with ha'; subst ad'
        have hup := HI.out.up (k - 1) x y hx (by rw [show k - 1 + 1 = k by omega]; exact hy)
        have jz : ¬ y ≤ x := by omega
        have j1 : IntKind.i64.wrap (K - 1) = K - 1 := IntWalk.i64_in _ (by omega)
        have j3 : (0 : Int) ≤ K - 1 := by omega
        have j4 : K - 1 < (n : Int) := by omega
        have j5 : (K - 1).toNat = k - 1 := by omega
        have j8 : wrap64 (K - 1) = K - 1 := IntWalk.wrap64_in _ ⟨by omega, by omega⟩
        have j9 : (1 : Int) ≤ K := by omega
        have ja : (0 : Int) < K := by omega
        clear hk0 hKk hx hy hup
        go_wp2_with fail
        go_region
        all_goals
          go_wp2
          go_roundw
          case rel => exact ⟨k + 1, K + 1, by omega, rfl, hid (by rw [HK.out]; omega), HB.out.drew⟩
          case measure => (have := HK.out; simp [intOf]; omega)
    · obtain rfl : k = n := by omega
      have i1 : ¬ K < (k : Int) := by omega
      have i2 : (k : Int) ≤ 20 := by omega
      have i3 : decide ((k : Int) ≤ 20) = true := decide_eq_true i2
      have i4 : k ≤ 20 := by omega
      clear hKk
      go_wp2
      go_ret
      exact ⟨rfl, HB.out⟩
def CntIn (l : List Int) : Prop := 1 ≤ l.length ∧ l.length ≤ 21 ∧ ∀ x ∈ l, 0 ≤ x ∧ x ≤ 1048576
theorem counted_test (x : Int) (w : World) (h : 0 ≤ x ∧ x ≤ 1048576) : Calls Try.prog 31 #[.int .i64 x] w fun e w' => e = .returned (.bool false) ∧ w = w' := by
  have i1 : ¬ x < 0 := by omega
  have i2 : ¬ (1048576 : Int) < x := by omega
  go_enter Try.func31, Try.ntmps31
  go_wp2
  go_ret
  exact ⟨rfl, rfl⟩
theorem index_none (A : Option Addr) (n c : Nat) (l : List Int) (w : World) (h : Sl w 1 A n (ints l)) (hl : CntIn l) :
    Calls Try.prog 43 #[.slice A n c, .func (.func 31) #[] #[]] w fun e w' => e = .returned (.int .i64 (-1)) ∧ Below w.heap.size w w' := by
  have H := hid h; have HI := hid hl
  have HL := hid H.out.leni
  have hn := hl.2.1
  rw [HL.out] at hn
  clear h hl
  go_enter Try.func43, Try.ntmps43
  go_wp2
  go_loopw [8] (fun i wr => ∃ k : Nat, k ≤ n ∧ i = .int .i64 k ∧ Below w.heap.size w wr) (fun i _ => n - (intOf i).toNat)
  case atStart => exact ⟨0, Nat.zero_le _, rfl, bnil _⟩
  case round =>
    obtain ⟨k, hk, rfl, hb⟩ := hrel
    have HB := hid hb; clear hb
    by_cases hlt : k < n
    · obtain ⟨ad, y, rfl, hy, c1⟩ := (H.out.below HB.out).ati hlt
      have hyb := HI.out.2.2 y (List.mem_of_getElem? hy)
      have CT := fun V => hid (counted_test y V hyb)
      have i1 : (k : Int) < (n : Int) := by omega
      clear hy hyb
      go_wp2_with fail
      refine (CT _).out.mono ?_
      rintro e w2 ⟨rfl, rfl⟩
      go_wp2
      go_roundw
      case rel => exact ⟨k + 1, by omega, by go_num, HB.out⟩
      case measure => simp [intOf]; omega
    · obtain rfl : k = n := by omega
      have i1 : ¬ (k : Int) < (k : Int) := by omega
      go_wp2
      go_ret
      exact ⟨rfl, HB.out⟩
theorem contains_none (A : Option Addr) (n c : Nat) (l : List Int) (w : World) (h : Sl w 1 A n (ints l)) (hl : CntIn l) :
    Calls Try.prog 30 #[.slice A n c, .func (.func 31) #[] #[]] w fun e w' => e = .returned (.bool false) ∧ Below w.heap.size w w' := by
  go_enter Try.func30, Try.ntmps30
  go_wp2_with fail
  refine (index_none A n c l w h hl).mono ?_
  rintro e w2 ⟨rfl, hb⟩
  go_wp2
  go_ret
  exact ⟨rfl, hb⟩
theorem quant_counted (A : Option Addr) (n c : Nat) (l : List Int) (w : World) (h : Sl w 1 A n (ints l)) (hl : CntIn l) :
    Calls Try.prog 17 #[.slice A n c] w fun e w' => e = .returned (.bool true) ∧ Below w.heap.size w w' := by
  have HL := hid h.leni
  have i1 : (1 : Int) ≤ (n : Int) := by have := hl.1; rw [HL.out] at this; omega
  have i2 : (n : Int) ≤ 21 := by have := hl.2.1; rw [HL.out] at this; omega
  have i3 : 1 ≤ n := by omega
  have i4 : n ≤ 21 := by omega
  have i5 := decide_eq_true i1
  have i6 := decide_eq_true i2
  have CC := hid (contains_none A n c l w h hl)
  clear h hl
  go_enter Try.func17, Try.ntmps17
  go_wp2_with fail
  refine CC.out.mono ?_
  rintro e w2 ⟨rfl, hb⟩
  go_wp2
  go_ret
  exact ⟨rfl, hb⟩
/-! ### counts -/
def cntB (bs : List Int) (v : Int) : Nat := (bs.takeWhile (· < v)).length
theorem cntB_le (bs : List Int) (v : Int) : cntB bs v ≤ bs.length := (List.takeWhile_prefix _).length_le
theorem cntB_lt (v : Int) : ∀ (bs : List Int) (k : Nat) (x : Int), k < cntB bs v → bs[k]? = some x → x < v
  | [], k, x, h, _ => by simp [cntB] at h
  | b :: bs, k, x, h, hx => by
    unfold cntB at h
    rw [List.takeWhile_cons] at h
    by_cases hb : b < v
    · rw [if_pos (by simpa using hb), List.length_cons] at h
      match k with
      | 0 => simp at hx; rw [← hx]; exact hb
      | k + 1 => exact cntB_lt v bs k x (by unfold cntB; omega) (by simpa using hx)
    · rw [if_neg (by simpa using hb)] at h; simp at h
theorem cntB_ge (v : Int) : ∀ (bs : List Int) (x : Int), bs[cntB bs v]? = some x → v ≤ x
  | [], x, h => by simp at h
  | b :: bs, x, h => by
    unfold cntB at h
    rw [List.takeWhile_cons] at h
    by_cases hb : b < v
    · rw [if_pos (by simpa using hb), List.length_cons, List.getElem?_cons_succ] at h
      exact cntB_ge v bs x h
    · rw [if_neg (by simpa using hb)] at h; simp at h; rw [← h]; omega
theorem isNaN_cmp (x : Int) (w : World) : Calls Try.prog 42 #[.int .i64 x] w fun e w' => e = .returned (.bool false) ∧ w = w' := by
  have h : (x != x) = false := by simp
  go_enter Try.func42, Try.ntmps42
  go_wp2
  go_ret
  exact ⟨rfl, rfl⟩
theorem isNaN_sl (x : Int) (w : World) : Calls Try.prog 29 #[.int .i64 x] w fun e w' => e = .returned (.bool false) ∧ w = w' := by
  have h : (x != x) = false := by simp
  go_enter Try.func29, Try.ntmps29
  go_wp2
  go_ret
  exact ⟨rfl, rfl⟩
theorem cmp_less (x y : Int) (w : World) : Calls Try.prog 28 #[.int .i64 x, .int .i64 y] w fun e w' => e = .returned (.bool (decide (x < y))) ∧ w = w' := by
  go_enter Try.func28, Try.ntmps28
  go_wp2_with fail
  refine (isNaN_cmp x w).mono ?_
  rintro e w ⟨rfl, rfl⟩
  go_wp2
  go_ret
  exact ⟨rfl, rfl⟩
set_option maxHeartbeats 1000000 in
theorem bsearch (A : Option Addr) (n c : Nat) (l : List Int) (v : Int) (w : World) (h : Sl w 1 A n (ints l)) (hl : BdIn l) :
    Calls Try.prog 16 #[.slice A n c, .int .i64 v] w fun e w' => (∃ f : Bool, e = .returned (.tuple #[.int .i64 (cntB l v : Int), .bool f])) ∧ Below w.heap.size w w' := by
  have H := hid h; have HI := hid hl
  have HL := hid H.out.leni
  have hn := hl.len
  rw [HL.out] at hn
  clear h hl
  have hci := cntB_le l v
  rw [HL.out] at hci
  have HLT := hid (cntB_lt v l); have HGE := hid (cntB_ge v l)
  generalize cntB l v = i at *
  have hmono : Hid (∀ (a b : Nat) (x y : Int), a < b → l[a]? = some x → l[b]? = some y → x < y) := by
    refine hid fun a b => ?_
    induction b with
    | zero => intro x y h; omega
    | succ b ih =>
      intro x y hab hx hy
      have hbl : b < l.length := by have := (List.getElem?_eq_some_iff.1 hy).1; omega
      have hb : l[b]? = some l[b] := List.getElem?_eq_getElem hbl
      have h1 := HI.out.up b _ _ hb hy
      by_cases h : a = b
      · subst h; rw [hb] at hx; injection hx with hx; rw [← hx]; exact h1
      · have := ih x l[b] (by omega) hx hb; omega
  go_enter Try.func16, Try.ntmps16
  go_wp2
  go_loopw [7, 8] (fun a b wr => ∃ p q : Nat, a = .int .i64 p ∧ b = .int .i64 q ∧ p ≤ i ∧ i ≤ q ∧ q ≤ n ∧ Below w.heap.size w wr) (fun a b _ => (intOf b).toNat - (intOf a).toNat)
  case atStart => exact ⟨0, n, rfl, rfl, Nat.zero_le _, hci, Nat.le_refl _, bnil _⟩
  case round =>
    obtain ⟨p, q, rfl, rfl, hp, hq, hqn, hb⟩ := hrel
    have HB := hid hb; clear hb
    by_cases hlt : p < q
    · obtain ⟨m, hm⟩ : ∃ m, (p + q) / 2 = m := ⟨_, rfl⟩
      have hmp : p ≤ m := by omega
      have hmq : m < q := by omega
      obtain ⟨ad, x, rfl, hx, c0⟩ := (H.out.below HB.out).ati (k := m) (by omega)
      have e1 : (((p : Int) + (q : Int)) / 2) = (m : Int) := by omega
      have i1 : (p : Int) < (q : Int) := by omega
      have i2 : (m : Int) < (n : Int) := by omega
      have HX := hid hx
      clear hx hm
      by_cases hc : x < v
      · have e2 : decide (x < v) = true := decide_eq_true hc
        have him : m < i := by
          rcases Nat.lt_or_ge m i with h | h
          · exact h
          · exfalso
            have hil : i < l.length := by rw [HL.out]; omega
            obtain ⟨y, hy⟩ : ∃ y, l[i]? = some y := ⟨_, List.getElem?_eq_getElem hil⟩
            have h4 := HGE.out y hy
            rcases Nat.lt_or_ge i m with h2 | h2
            · have h3 := hmono.out i m y x h2 hy HX.out; omega
            · obtain rfl : i = m := by omega
              have := HX.out; rw [hy] at this; injection this with this; omega
        go_wp2_with fail
        refine (cmp_less x v wr).mono ?_
        rintro e w2 ⟨rfl, rfl⟩
        rw [e2]
        go_wp2
        go_roundw
        case rel => exact ⟨m + 1, q, by go_num, rfl, by omega, hq, hqn, HB.out⟩
        case measure => simp [intOf]; omega
      · have e2 : decide (x < v) = false := decide_eq_false hc
        have him : i ≤ m := by
          rcases Nat.lt_or_ge m i with h | h
          · have := HLT.out m x h HX.out; omega
          · exact h
        go_wp2_with fail
        refine (cmp_less x v wr).mono ?_
        rintro e w2 ⟨rfl, rfl⟩
        rw [e2]
        go_wp2
        go_roundw
        case rel => exact ⟨p, m, rfl, rfl, hp, him, by omega, HB.out⟩
        case measure => simp [intOf]; omega
    · obtain rfl : p = q := by omega
      obtain rfl : p = i := by omega
      have i1 : ¬ (p : Int) < (p : Int) := by omega
      by_cases hpn : p < n
      · obtain ⟨ad, x, rfl, hx, c0⟩ := (H.out.below HB.out).ati (k := p) hpn
        have i2 : (p : Int) < (n : Int) := by omega
        clear hx
        by_cases hxv : x = v
        · have e2 : (x == v) = true := beqT hxv
          clear hxv
          go_wp2_with fail
          go_ret2
          first | exact ⟨.inl rfl, HB.out⟩ | exact ⟨.inr rfl, HB.out⟩ | exact ⟨⟨_, rfl⟩, HB.out⟩
        · have e2 : (x == v) = false := beqF hxv
          clear hxv
          go_wp2_with fail
          refine (isNaN_sl x wr).mono ?_
          rintro e w2 ⟨rfl, rfl⟩
          go_wp2
          go_ret2
          first | exact ⟨.inl rfl, HB.out⟩ | exact ⟨.inr rfl, HB.out⟩ | exact ⟨⟨_, rfl⟩, HB.out⟩
      · have i2 : ¬ (p : Int) < (n : Int) := by omega
        go_wp2_with fail
        go_ret2
        first | exact ⟨.inl rfl, HB.out⟩ | exact ⟨.inr rfl, HB.out⟩ | exact ⟨⟨_, rfl⟩, HB.out⟩
end Go.Proofs.Ytifpnfhmemdljaa
