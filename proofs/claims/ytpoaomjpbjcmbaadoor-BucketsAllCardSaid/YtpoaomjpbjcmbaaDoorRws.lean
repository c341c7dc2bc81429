/-
  Lists of byte lists: rows that came in, rows that a call has made itself.
-/
import Derived.Test.YtpoaomjpbjcmbaaDoorRow
import Derived.Test.YtpoaomjpbjcmbaaDoorNum
namespace Go.Proofs.YtpoaomjpbjcmbaaDoor
open Go.RowKit
set_option linter.unusedVariables false

abbrev gV : {v : Value // v.oneCell' = true} → List Value := fun v => [v.1]
theorem gV_one (x : {v : Value // v.oneCell' = true}) : ∀ u ∈ gV x, u.oneCell' = true := by intro u hu; simp at hu; subst hu; exact x.2

theorem own_grown {w w' : World} {base e sz : Nat} {v : Value} {n : Nat} {xs : List Value} {row : Option Nat} (h : w.ownsRow base e sz v n xs) (hg : w.grownBy w' row) (hr : ∀ k, v.ownBlock = some k → row ≠ some k) : w'.ownsRow base e sz v n xs :=
  own_chg h (Chg.of_grown (M := fun k => row = some k) hg (fun k hk => hk)) hr
theorem own_lt {w : World} {base e sz : Nat} {v : Value} {n : Nat} {xs : List Value} (h : w.ownsRow base e sz v n xs) {k : Nat} (hk : v.ownBlock = some k) : base ≤ k ∧ k < w.heap.size := by
  rcases h.2 with ⟨rfl, _⟩ | ⟨g, cap, cur, rfl, hg, hh, _⟩
  · simp [Value.ownBlock] at hk
  · obtain rfl : g = k := by simpa [Value.ownBlock] using hk
    exact ⟨hg, (Array.getElem?_eq_some_iff.1 hh).1⟩
theorem own_ne_own {w : World} {base base' e e' sz sz' : Nat} {v v' : Value} {n n' : Nat} {xs xs' : List Value} (h : w.ownsRow base e sz v n xs) (h' : w.ownsRow base' e' sz' v' n' xs') (hne : e ≠ e') (k : Nat) (hk : v.ownBlock = some k) : v'.ownBlock ≠ some k := by
  rcases h.2 with ⟨rfl, _⟩ | ⟨g, cap, cur, rfl, hg, hh, _⟩
  · simp [Value.ownBlock] at hk
  · obtain rfl : g = k := by simpa [Value.ownBlock] using hk
    exact own_ne_blk h' (show Blk w g e cur from hh) (Ne.symm hne)
theorem Ow.grown {α : Type} {w0 w w' : World} {e sz : Nat} {g : α → List Value} {v : Value} {l : List α} {row : Option Nat} (h : Ow w0 w e sz g v l) (hg : w.grownBy w' row) (hr : ∀ k, v.ownBlock = some k → row ≠ some k) (hb : Below w0.heap.size w0 w') : Ow w0 w' e sz g v l :=
  ⟨own_grown h.own hg hr, hb⟩

/-- each value owns the bytes beside it; none of it lies in the block av -/
def Rws (w0 w : World) (av : Option Nat) (vs : List {v : Value // v.oneCell' = true}) (ls : List (List UInt8)) : Prop :=
  vs.length = ls.length ∧ ∀ (i : Nat) (v : {v : Value // v.oneCell' = true}) (l : List UInt8), vs[i]? = some v → ls[i]? = some l → w.ownsRow w0.heap.size 5 1 v.1 l.length (byts l) ∧ ∀ k, v.1.ownBlock = some k → av ≠ some k
theorem Rws.nil (w0 w : World) (av : Option Nat) : Rws w0 w av [] [] := ⟨rfl, fun i v l h => by simp at h⟩
theorem Rws.step {w0 w w' : World} {av} {vs} {ls} (h : Rws w0 w av vs ls) (hb : Below w.heap.size w w') : Rws w0 w' av vs ls :=
  ⟨h.1, fun i v l hv hl => ⟨own_below (h.2 i v l hv hl).1 hb, (h.2 i v l hv hl).2⟩⟩
theorem Rws.grown {w0 w w' : World} {av} {vs} {ls} (h : Rws w0 w av vs ls) (hg : w.grownBy w' av) : Rws w0 w' av vs ls :=
  ⟨h.1, fun i v l hv hl => ⟨own_grown (h.2 i v l hv hl).1 hg (h.2 i v l hv hl).2, (h.2 i v l hv hl).2⟩⟩
theorem Rws.avoid {w0 w : World} {av av' : Option Nat} {vs} {ls} (h : Rws w0 w av vs ls) (ha : ∀ k, av' = some k → av = some k ∨ w.heap.size ≤ k) : Rws w0 w av' vs ls :=
  ⟨h.1, fun i v l hv hl => ⟨(h.2 i v l hv hl).1, fun k hk e => by
    rcases ha k e with h1 | h1
    · exact (h.2 i v l hv hl).2 k hk h1
    · have := (own_lt (h.2 i v l hv hl).1 hk).2; omega⟩⟩
theorem Rws.snoc {w0 w : World} {av} {vs} {ls} (h : Rws w0 w av vs ls) {v : {v : Value // v.oneCell' = true}} {l : List UInt8} (hv : w.ownsRow w0.heap.size 5 1 v.1 l.length (byts l)) (ha : ∀ k, v.1.ownBlock = some k → av ≠ some k) : Rws w0 w av (vs ++ [v]) (ls ++ [l]) := by
  refine ⟨by simp [h.1], fun i u m hu hm => ?_⟩
  by_cases hi : i < vs.length
  · rw [List.getElem?_append_left hi] at hu
    rw [List.getElem?_append_left (by rw [← h.1]; exact hi)] at hm
    exact h.2 i u m hu hm
  · have hi' : i = vs.length := by
      have := (List.getElem?_eq_some_iff.1 hu).1; simp at this; omega
    subst hi'
    simp at hu; subst hu
    rw [h.1] at hm; simp at hm; subst hm
    exact ⟨hv, ha⟩
theorem own_cell1 {w : World} {base e sz : Nat} {v : Value} {n : Nat} {xs : List Value} (h : w.ownsRow base e sz v n xs) : v.oneCell' = true := by
  rcases h.2 with ⟨rfl, _⟩ | ⟨g, cap, cur, rfl, hg, hh, _⟩ <;> rfl
/-- a list of byte lists of the call's own -/
def Rows (w0 w : World) (av : Option Nat) (v : Value) (ls : List (List UInt8)) : Prop := ∃ vs, Ow w0 w 27 1 gV v vs ∧ Rws w0 w av vs ls
theorem Rows.nil_ {w0 w : World} {av : Option Nat} (hb : Below w0.heap.size w0 w) : Rows w0 w av (Value.slice Option.none 0 0) [] := ⟨[], Ow.nil' hb _ _ _, Rws.nil _ _ _⟩
theorem Rows.step {w0 w w' : World} {av} {v} {ls} (h : Rows w0 w av v ls) (hb : Below w.heap.size w w') : Rows w0 w' av v ls := by
  obtain ⟨vs, h1, h2⟩ := h; exact ⟨vs, h1.step hb, h2.step hb⟩
theorem Rows.below {w0 w : World} {av} {v} {ls} (h : Rows w0 w av v ls) : Below w0.heap.size w0 w := by obtain ⟨vs, h1, h2⟩ := h; exact h1.below
theorem Rows.from {w00 w0 w : World} {av} {v} {ls} (h : Rows w0 w av v ls) (hb : Below w00.heap.size w00 w0) : Rows w00 w av v ls := by
  obtain ⟨vs, h1, h2⟩ := h; exact ⟨vs, h1.from hb, h2.1, fun i v l hv hl => ⟨own_lower (h2.2 i v l hv hl).1 hb.size, (h2.2 i v l hv hl).2⟩⟩
theorem Rows.form {w0 w : World} {av} {v} {ls} (h : Rows w0 w av v ls) : ∃ A c, v = .slice A ls.length c ∧ ls.length ≤ c ∧ c ≤ maxLen := by
  obtain ⟨vs, h1, h2⟩ := h; obtain ⟨A, c, e, h3, h4⟩ := h1.form; rw [h2.1] at e h3; exact ⟨A, c, e, h3, h4⟩
/-- a row of the list -/
theorem Rows.at_ {w0 w : World} {A : Option Addr} {n c i : Nat} {av} {ls} (h : Rows w0 w av (.slice A n c) ls) (hi : i < n) :
    ∃ ad l B c', A = some ad ∧ ls[i]? = some l ∧ w.cell? (ad.add i) = some (.slice B l.length c') ∧ l.length ≤ c' ∧ c' ≤ maxLen ∧ Sl w 1 B l.length (byts l) := by
  obtain ⟨vs, h1, h2⟩ := h
  obtain ⟨A', c1, e, h3, h4⟩ := h1.form
  injection e with e1 e2 e3
  subst e1; subst e2; subst e3
  obtain ⟨ad, rfl, hc⟩ := h1.sl.2 (by omega)
  have hv : vs[i]? = some vs[i] := List.getElem?_eq_getElem hi
  have hl : ls[i]? = some (ls[i]'(by rw [← h2.1]; exact hi)) := List.getElem?_eq_getElem _
  have ho := (h2.2 i _ _ hv hl).1
  obtain ⟨B, c', hB, h5, h6⟩ := own_form ho
  refine ⟨ad, _, B, c', rfl, hl, ?_, h5, h6, Sl.own (by rw [hB] at ho; exact ho)⟩
  rw [← hB]
  refine hc i _ ?_
  have := flatMap_at gV 1 (fun _ => rfl) vs i 0 _ hv (by decide)
  rw [Nat.mul_one] at this; exact this
/-! ### rows that came in -/
def SlB (w : World) (v : Value) (l : List UInt8) : Prop := ∃ A c, v = .slice A l.length c ∧ l.length ≤ c ∧ c ≤ maxLen ∧ Sl w 1 A l.length (byts l)
theorem SlB.below {w w' : World} {v} {l} (h : SlB w v l) (hb : Below w.heap.size w w') : SlB w' v l := by
  obtain ⟨A, c, h1, h2, h3, h4⟩ := h; exact ⟨A, c, h1, h2, h3, h4.below hb⟩
def Rin (w : World) (A : Option Addr) (n : Nat) (ls : List (List UInt8)) : Prop :=
  ls.length = n ∧ ∃ vs : List Value, Sl w 1 A n vs ∧ ∀ (i : Nat) (v : Value) (l : List UInt8), vs[i]? = some v → ls[i]? = some l → SlB w v l
theorem Rin.below {w w' : World} {A} {n} {ls} (h : Rin w A n ls) (hb : Below w.heap.size w w') : Rin w' A n ls := by
  obtain ⟨h1, vs, h2, h3⟩ := h; exact ⟨h1, vs, h2.below hb, fun i v l hv hl => (h3 i v l hv hl).below hb⟩
theorem Rin.at_ {w : World} {A : Option Addr} {n i : Nat} {ls} (h : Rin w A n ls) (hi : i < n) :
    ∃ ad l B c', A = some ad ∧ ls[i]? = some l ∧ w.cell? (ad.add i) = some (.slice B l.length c') ∧ l.length ≤ c' ∧ c' ≤ maxLen ∧ Sl w 1 B l.length (byts l) := by
  obtain ⟨h1, vs, h2, h3⟩ := h
  obtain ⟨ad, rfl, hc⟩ := h2.2 (by omega)
  have hv : vs[i]? = some (vs[i]'(by rw [h2.1]; omega)) := List.getElem?_eq_getElem _
  have hl : ls[i]? = some (ls[i]'(by omega)) := List.getElem?_eq_getElem _
  obtain ⟨B, c', e, h4, h5, h6⟩ := h3 i _ _ hv hl
  exact ⟨ad, _, B, c', rfl, hl, by rw [← e]; exact hc i _ hv, h4, h5, h6⟩
theorem Rows.rin {w0 w : World} {A : Option Addr} {n c : Nat} {av} {ls} (h : Rows w0 w av (.slice A n c) ls) : Rin w A n ls := by
  obtain ⟨vs, h1, h2⟩ := h
  obtain ⟨A', c1, e, h3, h4⟩ := h1.form
  injection e with e1 e2 e3
  subst e1; subst e2; subst e3
  refine ⟨h2.1.symm, vs.flatMap gV, h1.sl, fun i v l hv hl => ?_⟩
  have hi : i < vs.length := by have := (List.getElem?_eq_some_iff.1 hl).1; rw [h2.1]; exact this
  have hv' : vs[i]? = some vs[i] := List.getElem?_eq_getElem hi
  have h5 := flatMap_at gV 1 (fun _ => rfl) vs i 0 _ hv' (by decide)
  rw [Nat.mul_one, Nat.add_zero, hv] at h5
  simp at h5
  have ho := (h2.2 i _ _ hv' hl).1
  obtain ⟨B, c', hB, h6, h7⟩ := own_form ho
  exact ⟨B, c', by rw [h5, hB], h6, h7, Sl.own (by rw [hB] at ho; exact ho)⟩
/-- bytes beside the rows have grown -/
theorem Rows.outgrow {w0 w w' : World} {v u u' : Value} {ls} {b sz n : Nat} {xs : List Value} (h : Rows w0 w u.ownBlock v ls) (hu : w.ownsRow b 5 sz u n xs) (hg : w.grownBy w' u.ownBlock) (hu' : u'.ownBlock = u.ownBlock ∨ u'.ownBlock = some w.heap.size) (hb : Below w0.heap.size w0 w') : Rows w0 w' u'.ownBlock v ls := by
  obtain ⟨vs, h1, h2⟩ := h
  refine ⟨vs, h1.grown hg (fun k hk => fun e => own_ne_own h1.own hu (by decide) k hk e) hb, ?_⟩
  · have h3 := h2.grown hg
    refine ⟨h3.1, fun i v l hv hl => ⟨(h3.2 i v l hv hl).1, fun k hk e => ?_⟩⟩
    rcases hu' with e' | e'
    · exact (h2.2 i v l hv hl).2 k hk (by rw [← e']; exact e)
    · rw [e'] at e; injection e with e; have := (own_lt (h2.2 i v l hv hl).1 hk).2; omega
/-- what is new lies apart from what was there, which may have grown -/
theorem own_apart {w0 w1 w2 : World} {b0 b2 e e' sz sz' n n' : Nat} {u u' v : Value} {xs xs' : List Value} (hu : w0.ownsRow b0 e sz u n xs) (hv : w2.ownsRow b2 e' sz' v n' xs') (hb : w0.heap.size ≤ b2) (h2 : w2.heap.size ≤ w1.heap.size) (hu' : u'.ownBlock = u.ownBlock ∨ u'.ownBlock = some w1.heap.size) (k : Nat) (hk : v.ownBlock = some k) : u'.ownBlock ≠ some k := by
  intro e
  have h := own_lt hv hk
  rcases hu' with h1 | h1
  · have := own_lt hu (by rw [← h1]; exact e); omega
  · rw [h1] at e; injection e; omega
theorem Rows.none_ {w0 w : World} {av} {v} {ls} (h : Rows w0 w av v ls) : Rows w0 w Option.none v ls := by
  obtain ⟨vs, h1, h2⟩ := h; exact ⟨vs, h1, h2.avoid fun k hk => by cases hk⟩
end Go.Proofs.YtpoaomjpbjcmbaaDoor
