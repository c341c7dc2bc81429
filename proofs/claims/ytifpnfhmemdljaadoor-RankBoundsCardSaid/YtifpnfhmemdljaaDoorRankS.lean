/-
  quant.Rank's closure and sort.Search with it: their walks.
-/
import Derived.Test.YtifpnfhmemdljaaDoorBase
import Derived.Test.YtifpnfhmemdljaaDoorNum
namespace Go.Proofs.YtifpnfhmemdljaaDoor
open Go.RowKit
set_option linter.unusedVariables false

/-- the place of the quantile -/
def RankI (n o p i : Nat) : Prop := i ≤ n ∧ (∀ k, k < i → (k + 1) * o < p * n) ∧ ∀ k, i ≤ k → k < n → p * n ≤ (k + 1) * o
set_option maxHeartbeats 1000000 in
theorem rank_test (g1 g2 g3 : Nat) (A : Option Addr) (n c k o p : Nat) (w : World) (hn : n ≤ 1000) (ho : o ≤ 1048576) (hp : p ≤ 1048576) (hk : k < n) (h1 : Blk w g1 3 #[.int .i64 (o : Int)]) (h2 : Blk w g2 3 #[.int .i64 (p : Int)]) (h3 : Blk w g3 27 #[.slice A n c]) :
    Calls Tryd.prog 12 #[.int .i64 (k : Int), .pointer (some ⟨g1, 0, none⟩), .pointer (some ⟨g2, 0, none⟩), .pointer (some ⟨g3, 0, none⟩)] w fun e w' => e = .returned (.bool (decide (p * n ≤ (k + 1) * o))) ∧ w = w' := by
  have k1 := h1.cell 0
  have k2 := h2.cell 0
  have k3 := h3.cell 0
  simp only [List.getElem?_toArray, List.getElem?_cons_zero] at k1 k2 k3
  obtain ⟨P, hP⟩ : ∃ P, p * n = P := ⟨_, rfl⟩
  obtain ⟨Q, hQ⟩ : ∃ Q, (k + 1) * o = Q := ⟨_, rfl⟩
  have hPb : P ≤ 1048576 * 1000 := by rw [← hP]; exact Nat.mul_le_mul hp hn
  have hQb : Q ≤ 1000 * 1048576 := by rw [← hQ]; exact Nat.mul_le_mul (by omega) ho
  have eP : (p : Int) * (n : Int) = (P : Int) := by rw [← hP]; simp
  have eQ : ((k : Int) + 1) * (o : Int) = (Q : Int) := by rw [← hQ]; simp
  rw [hP, hQ]
  clear hP hQ
  go_enter Tryd.func12, Tryd.ntmps12
  go_wp2
  go_ret
  refine ⟨?_, rfl⟩
  have e : decide ((P : Int) ≤ (Q : Int)) = decide (P ≤ Q) := by
    by_cases h : P ≤ Q
    · rw [decide_eq_true h, decide_eq_true (by omega)]
    · rw [decide_eq_false h, decide_eq_false (by omega)]
  first | rw [e] | simp
set_option maxHeartbeats 1000000 in
theorem search_rank (g1 g2 g3 : Nat) (A : Option Addr) (n c o p i : Nat) (w : World) (hn : n ≤ 1000) (ho : o ≤ 1048576) (hp : p ≤ 1048576) (h1 : Blk w g1 3 #[.int .i64 (o : Int)]) (h2 : Blk w g2 3 #[.int .i64 (p : Int)]) (h3 : Blk w g3 27 #[.slice A n c]) (hi : RankI n o p i) :
    Calls Tryd.prog 11 #[.int .i64 (n : Int), .func (.func 12) #[] #[.pointer (some ⟨g1, 0, none⟩), .pointer (some ⟨g2, 0, none⟩), .pointer (some ⟨g3, 0, none⟩)]] w fun e w' => e = .returned (.int .i64 (i : Int)) ∧ Below w.heap.size w w' := by
  have H1 := hid h1; have H2 := hid h2; have H3 := hid h3; have HF := hid hi
  clear h1 h2 h3 hi
  go_enter Tryd.func11, Tryd.ntmps11
  go_wp2
  go_loopw [5, 6] (fun a b wr => ∃ s q : Nat, a = .int .i64 s ∧ b = .int .i64 q ∧ s ≤ i ∧ i ≤ q ∧ q ≤ n ∧ Below w.heap.size w wr) (fun a b _ => (intOf b).toNat - (intOf a).toNat)
  case atStart => exact ⟨0, n, rfl, rfl, Nat.zero_le _, HF.out.1, Nat.le_refl _, bnil _⟩
  case round =>
    obtain ⟨s, q, rfl, rfl, hs, hq, hqn, hb⟩ := hrel
    have HB := hid hb; clear hb
    by_cases hlt : s < q
    · obtain ⟨m, hm⟩ : ∃ m, (s + q) / 2 = m := ⟨_, rfl⟩
      have hmp : s ≤ m := by omega
      have hmq : m < q := by omega
      have hmn : m < n := by omega
      have e1 : (((s : Int) + (q : Int)) / 2) = (m : Int) := by omega
      have i1 : (s : Int) < (q : Int) := by omega
      have HAT := hid (rank_test g1 g2 g3 A n c m o p wr hn ho hp hmn (H1.out.below' HB.out) (H2.out.below' HB.out) (H3.out.below' HB.out))
      clear hm
      by_cases hc : p * n ≤ (m + 1) * o
      · have e2 : decide (p * n ≤ (m + 1) * o) = true := decide_eq_true hc
        have him : i ≤ m := by
          rcases Nat.lt_or_ge m i with h | h
          · have := HF.out.2.1 m h; omega
          · exact h
        have HE := hid e2
        clear hc e2
        go_wp2_with fail
        refine HAT.out.mono ?_
        rintro e w2 ⟨rfl, rfl⟩
        rw [HE.out]
        go_wp2_with fail
        go_roundw
        case rel => exact ⟨s, m, by first | rfl | go_num, by first | rfl | go_num, hs, him, by omega, HB.out⟩
        case measure => simp [intOf]; omega
      · have e2 : decide (p * n ≤ (m + 1) * o) = false := decide_eq_false hc
        have him : m + 1 ≤ i := by
          rcases Nat.lt_or_ge m i with h | h
          · exact h
          · exact absurd (HF.out.2.2 m h hmn) hc
        have HE := hid e2
        clear hc e2
        go_wp2_with fail
        refine HAT.out.mono ?_
        rintro e w2 ⟨rfl, rfl⟩
        rw [HE.out]
        go_wp2_with fail
        go_roundw
        case rel => exact ⟨m + 1, q, by first | rfl | go_num, by first | rfl | go_num, him, hq, hqn, HB.out⟩
        case measure => simp [intOf]; omega
    · obtain rfl : s = i := by omega
      have i1 : ¬ (s : Int) < (q : Int) := by omega
      go_wp2_with fail
      go_ret
      exact ⟨by first | rfl | go_num, HB.out⟩
/-- there is such a place -/
theorem rankI_of (n o p : Nat) (h : p ≤ o) : RankI n o p ((List.range n).countP fun k => decide ((k + 1) * o < p * n)) := by
  have mono : ∀ a b, a ≤ b → (a + 1) * o ≤ (b + 1) * o := fun a b hab => Nat.mul_le_mul_right o (by omega)
  have key : ∀ m, m ≤ n → ((List.range m).countP fun k => decide ((k + 1) * o < p * n)) ≤ m ∧ (∀ k, k < (List.range m).countP (fun k => decide ((k + 1) * o < p * n)) → (k + 1) * o < p * n) ∧ ∀ k, (List.range m).countP (fun k => decide ((k + 1) * o < p * n)) ≤ k → k < m → p * n ≤ (k + 1) * o := by
    intro m
    induction m with
    | zero => intro _; exact ⟨Nat.le_refl _, fun k hk => by simp at hk, fun k _ hk => by omega⟩
    | succ m ih =>
      intro hm
      obtain ⟨i1, i2, i3⟩ := ih (by omega)
      rw [List.range_succ, List.countP_append]
      by_cases hc : (m + 1) * o < p * n
      · have e : List.countP (fun k => decide ((k + 1) * o < p * n)) [m] = 1 := by simp [hc]
        have hall : (List.range m).countP (fun k => decide ((k + 1) * o < p * n)) = m := by
          rcases Nat.lt_or_ge ((List.range m).countP (fun k => decide ((k + 1) * o < p * n))) m with h2 | h2
          · have h3 := i3 _ (Nat.le_refl _) h2
            have h4 := mono _ _ (Nat.le_of_lt h2)
            omega
          · omega
        rw [e, hall]
        refine ⟨Nat.le_refl _, fun k hk => ?_, fun k h2 h3 => by omega⟩
        have := mono k m (by omega)
        omega
      · have e : List.countP (fun k => decide ((k + 1) * o < p * n)) [m] = 0 := by simp; omega
        rw [e, Nat.add_zero]
        refine ⟨by omega, i2, fun k h2 h3 => ?_⟩
        by_cases hk : k = m
        · subst hk; omega
        · exact i3 k h2 (by omega)
  exact key n (Nat.le_refl _)
end Go.Proofs.YtifpnfhmemdljaaDoor
