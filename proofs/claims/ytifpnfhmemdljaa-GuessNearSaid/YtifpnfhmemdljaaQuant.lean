/-
  barographkeep.Values, BoundsOf; quant.bounded, counted, Counts, Join; slices.BinarySearch, Clone: their walks, for lists of few values.
-/
import Derived.Test.YtifpnfhmemdljaaNum
import Derived.Lib.SliceRun
import Derived.Deep.OwnRows
namespace Go.Proofs.Ytifpnfhmemdljaa
open Go.RowKit
set_option linter.unusedVariables false
def valsOf (l : List Int) (m : Nat) : List Int := 3 :: (l.take m).map fun x => (pk x 50 : Int) - 20
theorem valsOf_bd (l : List Int) (m : Nat) : ∀ v ∈ valsOf l m, -20 ≤ v ∧ v ≤ 29 := by
  intro v hv
  rcases List.mem_cons.1 hv with rfl | h
  · decide
  · obtain ⟨x, _, rfl⟩ := List.mem_map.1 h
    have := pk_lt x 50 (by decide); omega
theorem valsOf_len (l : List Int) (m : Nat) : (valsOf l m).length = min m l.length + 1 := by unfold valsOf; rw [List.length_cons, List.length_map, List.length_take]
theorem valsOf_step (l : List Int) (k : Nat) (x : Int) (h : l[k]? = some x) : valsOf l (k + 1) = valsOf l k ++ [(pk x 50 : Int) - 20] := by
  unfold valsOf; rw [take_next h, List.map_append]; rfl
theorem values_of (A : Option Addr) (n c : Nat) (l : List Int) (m : Nat) (w : World) (hn : n ≤ c) (hc : c ≤ maxLen) (h : Sl w 1 A n (ints l)) (hl : ∀ x ∈ l, -9223372036854775808 ≤ x ∧ x ≤ 9223372036854775807) (hm : m ≤ 100) :
    Calls Try.prog 5 #[.slice A n c, .int .i64 (m : Int)] w fun e w' => ∃ v, e = .returned v ∧ Ow w w' 3 1 gI v (valsOf l m) := by
  have H := hid h; have HI := hid hl; clear h hl
  have HL := hid H.out.leni
  unfold maxLen at hc
  have H0 := hid (⟨⟨rfl, .inr ⟨w.heap.size, 1, #[.int .i64 3], rfl, Nat.le_refl _, Blk.new w _ _, Nat.le_refl _, by simp [maxLen], rfl, rfl⟩⟩, bnew (bnil w) _⟩ : Ow w (w.alloc (.cells #[.int .i64 3] 3)) 3 1 gI (.slice (some ⟨w.heap.size, 0, none⟩) 1 1) [3])
  go_enter Try.func5, Try.ntmps5
  go_wp2
  go_loopw [5, 6] (fun o i wr => ∃ k : Nat, k ≤ n ∧ k ≤ m ∧ i = .int .i64 k ∧ Ow w wr 3 1 gI o (valsOf l k)) (fun _ i _ => n - (intOf i).toNat)
  case atStart => exact ⟨0, Nat.zero_le _, Nat.zero_le _, rfl, H0.out⟩
  case round =>
    obtain ⟨k, hk, hkm, rfl, ho⟩ := hrel
    have HO := hid ho; clear ho
    by_cases hlt : k < n ∧ k < m
    · obtain ⟨hlt1, hlt2⟩ := hlt
      obtain ⟨ad, x, rfl, hx, c0⟩ := (H.out.below HO.out.below).ati hlt1
      obtain ⟨x0, x1⟩ := HI.out x (List.mem_of_getElem? hx)
      have HS := hid (valsOf_step l k x hx)
      have hyl0 := valsOf_len l k
      have hpk := pk_lt x 50 (by decide)
      obtain ⟨p, hp⟩ : ∃ p, pk x 50 = p := ⟨_, rfl⟩
      rw [hp] at HS hpk
      have HP := hid hp
      obtain ⟨y0, hy0⟩ : ∃ y, valsOf l k = y := ⟨_, rfl⟩
      rw [hy0] at HS hyl0 HO
      obtain ⟨y, hy⟩ : ∃ y, y0 ++ [(p : Int) - 20] = y := ⟨_, rfl⟩
      have hyl : y.length ≤ 102 := by rw [← hy, List.length_append, hyl0]; simp; omega
      have HY := hid hy
      rw [hy] at HS
      clear hx hy hy0 hp hyl0
      have i1 : (k : Int) < (n : Int) := by omega
      have i2 : (k : Int) < (m : Int) := by omega
      go_wp2_with fail
      refine (picked x 50 wr (by omega) x0 x1 (by omega)).mono ?_
      rintro e wr ⟨rfl, rfl⟩
      rw [HP.out]
      go_wp2_with (at_builtin; refine wpList_appY elmI gI_one rfl (.tmp 19) (.tmp 26) rfl u5 y0 rfl (HO.out.alloc _) [(p : Int) - 20] y HY rfl (Sl.fresh wr #[.int .i64 ((p : Int) - 20)] 3 1 1 rfl) rfl (by simp only [maxLen]; omega) (by omega) ?_; intro A4 c4 w4 hc4 hc5 HN1 _ _)
      go_roundw
      case rel => exact ⟨k + 1, by omega, by omega, by go_num, by rw [HS.out]; exact HN1.out⟩
      case measure => simp [intOf]; omega
    · have hend : k = n ∨ (k < n ∧ k = m) := by omega
      have E := hid (show valsOf l k = valsOf l m by
        rcases hend with h | h
        · unfold valsOf; rw [List.take_of_length_le (by rw [HL.out]; omega), List.take_of_length_le (by rw [HL.out]; omega)]
        · rw [h.2])
      rw [E.out] at HO
      rcases hend with rfl | ⟨h1, rfl⟩
      · have i1 : ¬ (k : Int) < (k : Int) := by omega
        go_wp2
        go_ret
        exact ⟨_, rfl, HO.out⟩
      · have i1 : (k : Int) < (n : Int) := by omega
        have i2 : ¬ (k : Int) < (k : Int) := by omega
        go_wp2
        go_ret
        exact ⟨_, rfl, HO.out⟩
/-! ### bounds -/
def bd1 (s : Int × List Int) (x : Int) : Int × List Int := (s.1 + (1 + (pk x 9 : Int)), s.2 ++ [s.1 + (1 + (pk x 9 : Int))])
def bdSt (l : List Int) : Int × List Int := l.foldl bd1 (-25, [])
def bdsOf (l : List Int) : List Int := (bdSt (l.take 15)).2
theorem bdSt_snoc (l : List Int) (x : Int) : bdSt (l ++ [x]) = bd1 (bdSt l) x := by unfold bdSt; rw [List.foldl_append]; rfl
structure BdIn (l : List Int) : Prop where
  len : l.length ≤ 15
  bd : ∀ x ∈ l, -1000 ≤ x ∧ x ≤ 1000
  up : ∀ (k : Nat) (x y : Int), l[k]? = some x → l[k + 1]? = some y → x < y
theorem bdSt_inv (l : List Int) : ∀ k, k ≤ l.length → k ≤ 15 → -25 ≤ (bdSt (l.take k)).1 ∧ (bdSt (l.take k)).1 ≤ -25 + 10 * (k : Int) ∧ (bdSt (l.take k)).2.length = k ∧ BdIn (bdSt (l.take k)).2 ∧ ∀ x ∈ (bdSt (l.take k)).2, x ≤ (bdSt (l.take k)).1 := by
  intro k
  induction k with
  | zero =>
    intro _ _
    rw [List.take_zero]
    exact ⟨by decide, by decide, rfl, ⟨by decide, by simp [bdSt], by simp [bdSt]⟩, by simp [bdSt]⟩
  | succ k ih =>
    intro hk hk2
    obtain ⟨h1, h2, h3, h4, h5⟩ := ih (by omega) (by omega)
    have hx : l[k]? = some l[k] := List.getElem?_eq_getElem (by omega)
    have hp := pk_lt l[k] 9 (by decide)
    rw [take_next hx, bdSt_snoc]
    unfold bd1
    generalize bdSt (l.take k) = s at *
    generalize pk l[k] 9 = p at *
    refine ⟨by simp only; omega, by simp only; omega, by simp [h3], ⟨by simp [h3]; omega, fun x hx => ?_, fun j x y hx hy => ?_⟩, fun x hx => ?_⟩
    · simp only at hx
      rcases List.mem_append.1 hx with h | h
      · exact h4.bd x h
      · simp at h; subst h; omega
    · simp only at hx hy
      by_cases hj : j + 1 < s.2.length
      · rw [List.getElem?_append_left hj] at hy
        rw [List.getElem?_append_left (by omega)] at hx
        exact h4.up j x y hx hy
      · have h6 := (List.getElem?_eq_some_iff.1 hy).1
        simp at h6
        have hj2 : j + 1 = s.2.length := by omega
        rw [List.getElem?_append_left (by omega)] at hx
        rw [List.getElem?_append_right (by omega), hj2, Nat.sub_self] at hy
        simp at hy
        have := h5 x (List.mem_of_getElem? hx)
        omega
    · simp only at hx ⊢
      rcases List.mem_append.1 hx with h | h
      · have := h5 x h; omega
      · simp at h; omega
theorem bdsOf_in (l : List Int) : BdIn (bdsOf l) := by
  unfold bdsOf
  rcases Nat.lt_or_ge l.length 15 with h | h
  · have := (bdSt_inv l l.length (Nat.le_refl _) (by omega)).2.2.2.1
    rw [List.take_of_length_le (Nat.le_refl _)] at this
    rw [List.take_of_length_le (by omega)]; exact this
  · exact (bdSt_inv l 15 h (Nat.le_refl _)).2.2.2.1
theorem bounds_of (A : Option Addr) (n c : Nat) (l : List Int) (w : World) (hn : n ≤ c) (hc : c ≤ maxLen) (h : Sl w 1 A n (ints l)) (hl : ∀ x ∈ l, -9223372036854775808 ≤ x ∧ x ≤ 9223372036854775807) :
    Calls Try.prog 6 #[.slice A n c] w fun e w' => ∃ v, e = .returned v ∧ Ow w w' 3 1 gI v (bdsOf l) := by
  have H := hid h; have HI := hid hl; clear h hl
  have HL := hid H.out.leni
  unfold maxLen at hc
  go_enter Try.func6, Try.ntmps6
  go_wp2
  go_loopw [3, 4, 5] (fun o t i wr => ∃ (k : Nat) (T : Int), k ≤ n ∧ k ≤ 15 ∧ i = .int .i64 k ∧ t = .int .i64 T ∧ Hid ((bdSt (l.take k)).1 = T) ∧ Ow w wr 3 1 gI o (bdSt (l.take k)).2) (fun _ _ i _ => n - (intOf i).toNat)
  case atStart => exact ⟨0, -25, Nat.zero_le _, by omega, rfl, rfl, hid rfl, Ow.nil _ _ _ _⟩
  case round =>
    obtain ⟨k, T, hk, hkm, rfl, rfl, HT, ho⟩ := hrel
    have HO := hid ho; clear ho
    obtain ⟨g1, g2, g3, _, _⟩ := bdSt_inv l k (by rw [HL.out]; exact hk) hkm
    rw [HT.out] at g1 g2
    by_cases hlt : k < n ∧ k < 15
    · obtain ⟨hlt1, hlt2⟩ := hlt
      obtain ⟨ad, x, rfl, hx, c0⟩ := (H.out.below HO.out.below).ati hlt1
      obtain ⟨x0, x1⟩ := HI.out x (List.mem_of_getElem? hx)
      have HS := hid (show bdSt (l.take (k + 1)) = bd1 (bdSt (l.take k)) x by rw [take_next hx, bdSt_snoc])
      have hpk := pk_lt x 9 (by decide)
      obtain ⟨p, hp⟩ : ∃ p, pk x 9 = p := ⟨_, rfl⟩
      rw [hp] at hpk
      have HP := hid hp
      have HS2 := hid (show bdSt (l.take (k + 1)) = (T + (1 + (p : Int)), (bdSt (l.take k)).2 ++ [T + (1 + (p : Int))]) by rw [HS.out, bd1, HT.out, hp])
      obtain ⟨y0, hy0⟩ : ∃ y, (bdSt (l.take k)).2 = y := ⟨_, rfl⟩
      rw [hy0] at HS2 g3 HO
      obtain ⟨y, hy⟩ : ∃ y, y0 ++ [T + (1 + (p : Int))] = y := ⟨_, rfl⟩
      have hyl : y.length ≤ 16 := by rw [← hy, List.length_append, g3]; simp; omega
      have HY := hid hy
      rw [hy] at HS2
      clear hx hy hy0 hp HS
      have i1 : (k : Int) < (n : Int) := by omega
      have i2 : (k : Int) < (15 : Int) := by omega
      have e1 : wrap64 (T + (1 + (p : Int))) = T + (1 + (p : Int)) := IntWalk.wrap64_in _ ⟨by omega, by omega⟩
      have e2 : IntKind.i64.wrap (T + (1 + (p : Int))) = T + (1 + (p : Int)) := IntWalk.i64_in _ (by omega)
      go_wp2_with fail
      refine (picked x 9 wr (by omega) x0 x1 (by omega)).mono ?_
      rintro e wr ⟨rfl, rfl⟩
      rw [HP.out]
      go_wp2_with (at_builtin; refine wpList_appY elmI gI_one rfl (.tmp 24) (.tmp 26) rfl u3 y0 rfl (HO.out.alloc _) [T + (1 + (p : Int))] y HY rfl (Sl.fresh wr #[.int .i64 (T + (1 + (p : Int)))] 3 1 1 rfl) rfl (by simp only [maxLen]; omega) (by omega) ?_; intro A4 c4 w4 hc4 hc5 HN1 _ _)
      go_roundw
      case rel => exact ⟨k + 1, T + (1 + (p : Int)), by omega, by omega, by go_num, rfl, hid (by rw [HS2.out]), by rw [HS2.out]; exact HN1.out⟩
      case measure => simp [intOf]; omega
    · have hend : k = n ∨ (k < n ∧ k = 15) := by omega
      have E := hid (show (bdSt (l.take k)).2 = bdsOf l by
        unfold bdsOf
        rcases hend with h | h
        · rw [List.take_of_length_le (by rw [HL.out]; omega), List.take_of_length_le (by rw [HL.out]; omega)]
        · rw [h.2])
      rw [E.out] at HO
      rcases hend with rfl | ⟨h1, rfl⟩
      · have i1 : ¬ (k : Int) < (k : Int) := by omega
        go_wp2
        go_ret
        exact ⟨_, rfl, HO.out⟩
      · have i1 : ((15 : Nat) : Int) < (n : Int) := by omega
        go_wp2
        go_ret
        exact ⟨_, rfl, HO.out⟩
end Go.Proofs.Ytifpnfhmemdljaa
