/-
  GuessNear: plain laws of a histogram's guess.
-/
import Derived.Test.YtifpnfhmemdljaaRankG
namespace Go.Proofs.Ytifpnfhmemdljaa
open Go.RowKit
set_option linter.unusedVariables false

theorem countP_next (f : Int → Nat) (k : Nat) : ∀ vs : List Int, vs.countP (fun v => decide (f v < k + 1)) = vs.countP (fun v => decide (f v < k)) + vs.countP (fun v => f v == k)
  | [] => rfl
  | v :: vs => by
    rw [List.countP_cons, List.countP_cons, List.countP_cons, countP_next f k vs]
    rcases Nat.lt_trichotomy (f v) k with h | h | h
    · rw [if_pos (decide_eq_true (by omega)), if_pos (decide_eq_true h), if_neg (by simp; omega)]; omega
    · rw [if_pos (decide_eq_true (by omega)), if_neg (by simp; omega), if_pos (by simp; exact h)]; omega
    · rw [if_neg (by simp; omega), if_neg (by simp; omega), if_neg (by simp; omega)]; omega
/-- how many are counted in the first k buckets -/
def gsum (bs vs : List Int) (k : Nat) : Nat := vs.countP fun v => decide (cntB bs v < k)
theorem gsum_le (bs vs : List Int) (k : Nat) : gsum bs vs k ≤ vs.length := List.countP_le_length
theorem gsum_take (bs vs : List Int) : ∀ k, k ≤ bs.length + 1 → ((cts bs vs).take k).sum = (gsum bs vs k : Int)
  | 0, _ => by unfold gsum; simp
  | k + 1, h => by
    have hc := cts_at bs vs k (by omega)
    rw [take_next hc, List.sum_append_int, gsum_take bs vs k (by omega)]
    unfold gsum
    rw [countP_next]
    simp
theorem up_le {bs : List Int} (h : BdIn bs) : ∀ (d i : Nat) (x y : Int), bs[i]? = some x → bs[i + d]? = some y → x ≤ y
  | 0, i, x, y, hx, hy => by rw [Nat.add_zero, hx] at hy; injection hy with hy; omega
  | d + 1, i, x, y, hx, hy => by
    have hl := (List.getElem?_eq_some_iff.1 hy).1
    obtain ⟨z, hz⟩ : ∃ z, bs[i + d]? = some z := ⟨_, List.getElem?_eq_getElem (by omega)⟩
    have h1 := up_le h d i x z hx hz
    have h2 := h.up (i + d) z y hz (by rw [Nat.add_assoc]; exact hy)
    omega
theorem up_inj {bs : List Int} (h : BdIn bs) {i j : Nat} {x : Int} (hi : bs[i]? = some x) (hj : bs[j]? = some x) : i = j := by
  have key : ∀ (i j : Nat), i < j → bs[i]? = some x → bs[j]? = some x → False := by
    intro i j hij hi hj
    have hl := (List.getElem?_eq_some_iff.1 hj).1
    obtain ⟨z, hz⟩ : ∃ z, bs[i + 1]? = some z := ⟨_, List.getElem?_eq_getElem (by omega)⟩
    have h1 := h.up i x z hi hz
    have h2 := up_le h (j - (i + 1)) (i + 1) z x hz (by rw [show i + 1 + (j - (i + 1)) = j by omega]; exact hj)
    omega
  rcases Nat.lt_trichotomy i j with h1 | h1 | h1
  · exact (key i j h1 hi hj).elim
  · exact h1
  · exact (key j i h1 hj hi).elim
theorem cntB_iff {bs : List Int} (h : BdIn bs) {i : Nat} {b : Int} (hb : bs[i]? = some b) (v : Int) : cntB bs v < i + 1 ↔ v ≤ b := by
  have hi := (List.getElem?_eq_some_iff.1 hb).1
  constructor
  · intro hlt
    obtain ⟨y, hy⟩ : ∃ y, bs[cntB bs v]? = some y := ⟨_, List.getElem?_eq_getElem (by omega)⟩
    have h1 := cntB_ge v bs y hy
    have h2 := up_le h (i - cntB bs v) (cntB bs v) y b hy (by rw [show cntB bs v + (i - cntB bs v) = i by omega]; exact hb)
    omega
  · intro hle
    rcases Nat.lt_or_ge (cntB bs v) (i + 1) with h1 | h1
    · exact h1
    · have := cntB_lt v bs i b (by omega) hb; omega
theorem gsum_at {bs : List Int} (vs : List Int) (h : BdIn bs) {i : Nat} {b : Int} (hb : bs[i]? = some b) : gsum bs vs (i + 1) = vs.countP fun v => decide (v ≤ b) := by
  unfold gsum
  refine List.countP_congr fun v _ => ?_
  simp only [decide_eq_true_eq]
  exact cntB_iff h hb v
section
variable {bs vs : List Int} {o p i : Nat} {b : Int}
theorem guess_up (hI : BdIn bs) (h1 : 1 ≤ vs.length) (hp : p ≤ o) (hp0 : 0 < p) (hb : bs[i]? = some b) (hge : p * vs.length ≤ gsum bs vs (i + 1) * o) : rk vs o p ≤ b := by
  obtain ⟨_, _, h3⟩ := rank_one (l := vs) (o := o) (p := p) h1 hp
  rcases (show b < rk vs o p ∨ rk vs o p ≤ b by omega) with h | h
  · exfalso
    have h4 : gsum bs vs (i + 1) ≤ vs.countP (fun x => decide (x < rk vs o p)) := by
      rw [gsum_at vs hI hb]
      exact List.countP_mono_left fun v _ hv => by
        have hv := of_decide_eq_true hv
        exact decide_eq_true (by omega)
    have h5 := Nat.mul_le_mul_right o h4
    have h6 : 0 < p * vs.length := Nat.mul_pos hp0 h1
    rcases h3 with h3 | h3
    · rw [h3, Nat.zero_mul] at h5; omega
    · omega
  · exact h
theorem guess_low (hI : BdIn bs) (h1 : 1 ≤ vs.length) (hp : p ≤ o) (hb : bs[i]? = some b) (hlt : gsum bs vs (i + 1) * o < p * vs.length) : b < rk vs o p := by
  obtain ⟨_, h2, _⟩ := rank_one (l := vs) (o := o) (p := p) h1 hp
  rcases (show b < rk vs o p ∨ rk vs o p ≤ b by omega) with h | h
  · exact h
  · exfalso
    have h4 : vs.countP (fun x => decide (x ≤ rk vs o p)) ≤ gsum bs vs (i + 1) := by
      rw [gsum_at vs hI hb]
      exact List.countP_mono_left fun v _ hv => by
        have hv := of_decide_eq_true hv
        exact decide_eq_true (by omega)
    have h5 := Nat.mul_le_mul_right o h4
    omega
end
end Go.Proofs.Ytifpnfhmemdljaa
