/-
  Rows of structs: a store into one cell.
-/
import Derived.Test.YtfdgklfkpofkeaaBase
namespace Go.Proofs.Ytfdgklfkpofkeaa
open Go.RowKit
set_option linter.unusedVariables false

theorem flatMap_setG {α : Type} (g : α → List Value) (k : Nat) (hg : ∀ x, (g x).length = k) (j : Nat) (hj : j < k) (u : Value) (x y : α) (hy : g y = (g x).set j u) :
    ∀ (l : List α) (i : Nat), l[i]? = some x → (l.set i y).flatMap g = (l.flatMap g).set (i * k + j) u
  | [], i, h => by simp at h
  | z :: l, 0, h => by
    simp at h; subst h
    rw [List.set_cons_zero, List.flatMap_cons, List.flatMap_cons, Nat.zero_mul, Nat.zero_add, hy, List.set_append_left _ _ (by rw [hg]; exact hj)]
  | z :: l, i + 1, h => by
    rw [List.getElem?_cons_succ] at h
    rw [List.set_cons_succ, List.flatMap_cons, List.flatMap_cons, List.set_append_right _ _ (by rw [hg, Nat.add_mul]; omega), hg]
    rw [show (i + 1) * k + j - k = i * k + j by rw [Nat.add_mul]; omega]
    rw [flatMap_setG g k hg j hj u x y hy l i h]
/-- a row of the call's own with at least one element: its block -/
theorem Ow.rowG {α : Type} {w0 w : World} {e : TypeId} {sz : Nat} {g : α → List Value} {A : Option Addr} {n c : Nat} {l : List α} (h : Ow w0 w e sz g (.slice A n c) l) (hl : 0 < l.length) :
    ∃ b cur, A = some ⟨b, 0, none⟩ ∧ n = l.length ∧ w0.heap.size ≤ b ∧ Blk w b e cur ∧ cur.size = c * sz ∧ n ≤ c ∧ c ≤ maxLen ∧ cur.toList.take (n * sz) = l.flatMap g := by
  rcases h.own.2 with ⟨_, h0⟩ | ⟨b, cap, cur, hv, hb, hh, h1, h2, h3, h4⟩
  · omega
  · injection hv with e1 e2 e3
    subst e1; subst e2; subst e3
    exact ⟨b, cur, rfl, rfl, hb, hh, h3, h1, h2, by rw [← h4]⟩
theorem Ow.setG {α : Type} {w0 w : World} {e : TypeId} {sz : Nat} {g : α → List Value} (hg : ∀ x, (g x).length = sz) {b n c i j : Nat} {l : List α} {x y : α} {u : Value}
    (h : Ow w0 w e sz g (.slice (some ⟨b, 0, none⟩) n c) l) (hi : l[i]? = some x) (hj : j < sz) (hy : g y = (g x).set j u) :
    Ow w0 (w.setCell ⟨b, i * sz + j, none⟩ u) e sz g (.slice (some ⟨b, 0, none⟩) n c) (l.set i y) := by
  have hl : i < l.length := (List.getElem?_eq_some_iff.1 hi).1
  obtain ⟨b', cur, hA, rfl, hb, hk, hs, hc, hc2, ht⟩ := h.rowG (by omega)
  injection hA with hA; injection hA with hA; subst hA
  have hle := (List.getElem?_eq_some_iff.1 hi).1
  refine ⟨⟨by rw [flatMap_len _ sz hg], .inr ⟨b, c, cur.setIfInBounds (i * sz + j) u, by rw [List.length_set], hb, hk.set_ _ _, by rw [List.length_set]; exact hc, hc2, by simp [hs], ?_⟩⟩, h.below.setCell hb _⟩
  rw [flatMap_setG g sz hg j hj u x y hy l i hi, ← ht, List.length_set, Array.toList_setIfInBounds, List.take_set]
theorem Ow.cellG {α : Type} {w0 w : World} {e : TypeId} {sz : Nat} {g : α → List Value} (hg : ∀ x, (g x).length = sz) {b n c i j : Nat} {l : List α} {x : α} {u : Value}
    (h : Ow w0 w e sz g (.slice (some ⟨b, 0, none⟩) n c) l) (hi : l[i]? = some x) (hu : (g x)[j]? = some u) : w.cell? ⟨b, i * sz + j, none⟩ = some u ∧ w.frozen? ⟨b, i * sz + j, none⟩ = false := by
  have hl : i < l.length := (List.getElem?_eq_some_iff.1 hi).1
  have hj : j < sz := by have := (List.getElem?_eq_some_iff.1 hu).1; rw [hg] at this; exact this
  obtain ⟨b', cur, hA, rfl, hb, hk, hs, hc, hc2, ht⟩ := h.rowG (by omega)
  injection hA with hA; injection hA with hA; subst hA
  refine ⟨?_, hk.frozen _⟩
  have hm : i * sz + j < l.length * sz := by
    have : (i + 1) * sz ≤ l.length * sz := Nat.mul_le_mul_right _ hl
    rw [Nat.add_mul] at this; omega
  have h1 := flatMap_at g sz hg l i j x hi hj
  rw [hk.cell _, ← Array.getElem?_toList]
  rw [← ht, List.getElem?_take, if_pos hm, hu] at h1
  exact h1
theorem Ow.ad {α : Type} {w0 w : World} {e sz : Nat} {g : α → List Value} {A : Option Addr} {n c : Nat} {l : List α} (h : Ow w0 w e sz g (.slice A n c) l) (hl : 0 < l.length) : ∃ b, A = some ⟨b, 0, none⟩ := by
  rcases h.own.2 with ⟨_, h0⟩ | ⟨b, cap, cur, hv, _⟩
  · omega
  · injection hv with e1; exact ⟨b, e1⟩
theorem Ow.ge {α : Type} {w0 w : World} {e sz : Nat} {g : α → List Value} {b n c : Nat} {l : List α} (h : Ow w0 w e sz g (.slice (some ⟨b, 0, none⟩) n c) l) (hl : 0 < l.length) : w0.heap.size ≤ b := by
  obtain ⟨b', cur, hA, _, hb, _⟩ := h.rowG hl
  injection hA with hA; injection hA with hA; subst hA; exact hb
end Go.Proofs.Ytfdgklfkpofkeaa
