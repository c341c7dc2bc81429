/-
  barographkeep.rank: its walk; plain laws of the quantile.
-/
import Derived.Test.YtifpnfhmemdljaaDoorRank
import Derived.Test.YtifpnfhmemdljaaDoorKVals
namespace Go.Proofs.YtifpnfhmemdljaaDoor
open Go.RowKit
set_option linter.unusedVariables false

/-! ### plain -/
theorem srt_perm (l : List Int) : (srt l).Perm l := List.mergeSort_perm l _
theorem srt_pair (l : List Int) : (srt l).Pairwise fun x y => x ≤ y := by
  have h := List.pairwise_mergeSort (le := fun x y : Int => decide (x ≤ y)) (fun a b c h1 h2 => by simp at *; omega) (fun a b => by simp; omega) l
  exact h.imp fun h => by simpa using h
theorem pair_at {l : List Int} (h : l.Pairwise fun x y => x ≤ y) {i j : Nat} {x y : Int} (hij : i ≤ j) (hx : l[i]? = some x) (hy : l[j]? = some y) : x ≤ y := by
  rcases Nat.lt_or_ge i j with h1 | h1
  · obtain ⟨hi, rfl⟩ := List.getElem?_eq_some_iff.1 hx
    obtain ⟨hj, rfl⟩ := List.getElem?_eq_some_iff.1 hy
    exact List.pairwise_iff_getElem.1 h i j hi hj h1
  · obtain rfl : i = j := by omega
    rw [hx] at hy; injection hy with hy; omega
theorem rk_at {l : List Int} {o p : Nat} (h1 : 1 ≤ l.length) (hp : p ≤ o) : (srt l)[rkI l.length o p]? = some (rk l o p) := by
  unfold rk
  rw [List.getD_eq_getElem?_getD, List.getElem?_eq_getElem (by rw [srt_len]; exact rkI_lt h1 hp)]; rfl
theorem countP_ge {f : Int → Bool} : ∀ (l : List Int) (i : Nat), i ≤ l.length → (∀ k x, k < i → l[k]? = some x → f x = true) → i ≤ l.countP f
  | _, 0, _, _ => Nat.zero_le _
  | [], i + 1, h, _ => by simp at h
  | x :: l, i + 1, h, hf => by
    have h0 := hf 0 x (Nat.succ_pos i) rfl
    have := countP_ge (f := f) l i (by simpa using h) fun k y hk hy => hf (k + 1) y (by omega) (by simpa using hy)
    rw [List.countP_cons, h0]; simp; omega
theorem countP_le {f : Int → Bool} : ∀ (l : List Int) (i : Nat), (∀ k x, i ≤ k → l[k]? = some x → f x = false) → l.countP f ≤ i
  | [], i, _ => by simp
  | x :: l, 0, hf => by
    have h0 := hf 0 x (Nat.le_refl _) rfl
    have := countP_le (f := f) l 0 fun k y hk hy => hf (k + 1) y (by omega) (by simpa using hy)
    rw [List.countP_cons, h0]; simp; simpa using this
  | x :: l, i + 1, hf => by
    have := countP_le (f := f) l i fun k y hk hy => hf (k + 1) y (by omega) (by simpa using hy)
    rw [List.countP_cons]
    split <;> omega
/-- RankOne, plain -/
theorem rank_one {l : List Int} {o p : Nat} (h1 : 1 ≤ l.length) (hp : p ≤ o) : rk l o p ∈ l ∧ p * l.length ≤ l.countP (fun x => decide (x ≤ rk l o p)) * o ∧ (l.countP (fun x => decide (x < rk l o p)) = 0 ∨ l.countP (fun x => decide (x < rk l o p)) * o < p * l.length) := by
  have hat := rk_at (o := o) (p := p) h1 hp
  obtain ⟨i1, i2, i3⟩ := rankI_of l.length o p hp
  have hi := rkI_lt (o := o) (p := p) h1 hp
  have hs := srt_pair l
  refine ⟨(srt_perm l).mem_iff.1 (List.mem_of_getElem? hat), ?_, ?_⟩
  · have h2 : rkI l.length o p + 1 ≤ (srt l).countP (fun x => decide (x ≤ rk l o p)) := countP_ge _ _ (by rw [srt_len]; omega) fun k x hk hx => decide_eq_true (pair_at hs (by omega) hx hat)
    rw [(srt_perm l).countP_eq] at h2
    have h3 := i3 (rkI l.length o p) (Nat.le_refl _) hi
    exact Nat.le_trans h3 (Nat.mul_le_mul_right o h2)
  · have h2 : (srt l).countP (fun x => decide (x < rk l o p)) ≤ rkI l.length o p := countP_le _ _ fun k x hk hx => decide_eq_false (by have := pair_at hs hk hat hx; omega)
    rw [(srt_perm l).countP_eq] at h2
    rcases Nat.eq_zero_or_pos (l.countP (fun x => decide (x < rk l o p))) with h0 | h0
    · exact .inl h0
    · right
      have h3 := i2 (l.countP (fun x => decide (x < rk l o p)) - 1) (show _ < rkI l.length o p by omega)
      rw [Nat.sub_add_cancel h0] at h3
      exact h3
end Go.Proofs.YtifpnfhmemdljaaDoor
