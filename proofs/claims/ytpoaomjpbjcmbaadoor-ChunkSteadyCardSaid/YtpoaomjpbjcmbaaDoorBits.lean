/-
  bits.Write and bits.Read: their walks.
-/
import Derived.Test.YtpoaomjpbjcmbaaDoorPen
namespace Go.Proofs.YtpoaomjpbjcmbaaDoor
open Go.RowKit
set_option linter.unusedVariables false

/-! ### fields -/
abbrev gF : Nat × Nat → List Value := fun f => [.int .i64 (f.1 : Int), .int .i64 (f.2 : Int)]
def fieldBits (l : List (Nat × Nat)) : List Bool := l.flatMap fun f => bitsOf f.1 f.2
theorem fieldBits_len (l : List (Nat × Nat)) (h : ∀ f ∈ l, f.1 ≤ 60) : (fieldBits l).length ≤ l.length * 60 := by
  induction l with
  | nil => simp [fieldBits]
  | cons f l ih =>
    have h1 := ih fun x hx => h x (List.mem_cons_of_mem _ hx)
    have h2 := h f (List.mem_cons_self ..)
    have e : fieldBits (f :: l) = bitsOf f.1 f.2 ++ fieldBits l := rfl
    rw [e, List.length_append, bitsOf_len, List.length_cons]; omega
theorem Sl.atF {w : World} {A : Option Addr} {n k : Nat} {l : List (Nat × Nat)} (h : Sl w 2 A n (l.flatMap gF)) (hk : k < n) :
    ∃ ad f, A = some ad ∧ l[k]? = some f ∧ w.cell? (ad.add (k * 2)) = some (.int .i64 (f.1 : Int)) ∧ w.cell? ⟨(ad.add (k * 2)).block, (ad.add (k * 2)).off + 1, none⟩ = some (.int .i64 (f.2 : Int)) := by
  obtain ⟨ad, e, hc⟩ := h.2 (by omega)
  have hl : k < l.length := by have := h.1; rw [flatMap_len gF 2 (fun _ => rfl)] at this; omega
  have hx : l[k]? = some l[k] := List.getElem?_eq_getElem hl
  exact ⟨ad, l[k], e, hx, hc (k * 2 + 0) _ (flatMap_at gF 2 (fun _ => rfl) l k 0 _ hx (by decide)), cell_next (by decide) (hc (k * 2 + 1) _ (flatMap_at gF 2 (fun _ => rfl) l k 1 _ hx (by decide)))⟩
theorem PenCh.blw {w w' : World} {v' : Value} {o : Obj} (h : PenCh w.heap.size (w.alloc o) (.slice none 0 0) w' v') : Below w.heap.size w w' := by
  refine (bnew (bnil w) o).trans ((h.chg.below (B := w.heap.size) (fun k hk => ?_) (by simp)).mono (Nat.le_refl _))
  rcases hk with rfl | hk
  · exact Nat.le_refl _
  · simp [Value.ownBlock] at hk

theorem own_above {w w' : World} {e sz n : Nat} {v' : Value} {xs : List Value} {o : Obj} (h : w'.ownsRow 0 e sz v' n xs) (hc : PenCh w.heap.size (w.alloc o) (.slice none 0 0) w' v') : w'.ownsRow w.heap.size e sz v' n xs := by
  refine ⟨h.1, ?_⟩
  rcases h.2 with h0 | ⟨g, cap, cur, hv, hg, hh, r⟩
  · exact .inl h0
  · refine .inr ⟨g, cap, cur, hv, ?_, hh, r⟩
    rcases hc.row g (by rw [hv]; rfl) with h1 | h1
    · simp [Value.ownBlock] at h1
    · simp at h1; omega
end Go.Proofs.YtpoaomjpbjcmbaaDoor
