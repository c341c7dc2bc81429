/-
  The calls of a whole run: every end finds its beginning.
-/
import Derived.Test.YtabmkjokeeakdaaDoorDoing
namespace Go.Proofs.YtabmkjokeeakdaaDoor
open Go.RowKit
set_option linter.unusedVariables false

/-- every end finds its beginning -/
def FI (es : List Ev) : Prop := ∀ k e, es[k]? = some e → e.fin = true → ∃ d ∈ doings (es.take k), dopen e d = true
theorem FI.snoc {es : List Ev} {e : Ev} (h : FI es) (he : e.fin = true → ∃ d ∈ doings es, dopen e d = true) : FI (es ++ [e]) := by
  intro k x hk hx
  rw [List.getElem?_append] at hk
  split at hk
  · rename_i hl
    rw [List.take_append_of_le_length (by omega)]
    exact h k x hk hx
  · rename_i hl
    rw [List.getElem?_singleton] at hk
    split at hk
    · injection hk with hk
      subst hk
      have e1 : k = es.length := by omega
      subst e1
      rw [List.take_append_of_le_length (Nat.le_refl _), List.take_length]
      exact he hx
    · cases hk
theorem DI.act {m : Mach} {i n : Nat} {s s1 : PS} {p1 : PT} {u : List Ev} (h1 : DI (i + 1) s1) (hF : FI s1.evs) (hn : s1.ths[n]? = some p1) (he : s1.evs = s.evs ++ u) (hset : ∀ q, s1.ths.set n q = s.ths.set n q) (hc : p1.cur.isSome = true) :
    DI (i + 1) (pact m i n (p1, u) s) ∧ FI (pact m i n (p1, u) s).evs := by
  obtain ⟨nx, cur⟩ := p1
  cases cur with
  | none => cases hc
  | some x =>
    obtain ⟨ci, t⟩ := x
    unfold pact
    simp only
    split
    · obtain ⟨k, d, hd, ht, hdc, hde, _, hD⟩ := h1.fin (vstep (m.codes.getD ci []) t s.words).2 (vstep (m.codes.getD ci []) t s.words).1.err (vstep (m.codes.getD ci []) t s.words).1.told hn (Nat.lt_succ_self i) (fun k d hd => Nat.le_of_lt_succ (h1.time k d hd).1)
      rw [hset, he, List.append_assoc] at hD
      refine ⟨hD, ?_⟩
      show FI (s.evs ++ (u ++ _))
      rw [← List.append_assoc, ← he]
      refine hF.snoc fun _ => ⟨d, List.mem_of_getElem? hd, ?_⟩
      simp [dopen, ht, hdc, hde]
    · have hD := h1.cont (ci, (vstep (m.codes.getD ci []) t s.words).1) (vstep (m.codes.getD ci []) t s.words).2 hn
      rw [hset, he] at hD
      refine ⟨hD, ?_⟩
      show FI (s.evs ++ u)
      rw [← he]
      exact hF
theorem DI.step {m : Mach} {i n : Nat} {s : PS} (h : DI i s) (hF : FI s.evs) : DI (i + 1) (pstep m i n s) ∧ FI (pstep m i n s).evs := by
  unfold pstep
  split
  · rename_i p calls hn hc
    obtain ⟨nx, cur⟩ := p
    cases cur with
    | some x =>
      exact (h.mono (Nat.le_succ i)).act hF hn (List.append_nil _).symm (fun _ => rfl) rfl
    | none =>
      unfold pbeg
      simp only
      split
      · exact ⟨h.mono (Nat.le_succ i), hF⟩
      · rename_i c hcc
        have hl := (List.getElem?_eq_some_iff.1 hn).1
        have hD := h.begin (c.code, vbegin (m.codes.getD c.code []).length c.args) s.words hn
        refine hD.act (hF.snoc fun e => by cases e) ?_ rfl ?_ rfl
        · show (s.ths.set n _)[n]? = _
          rw [List.getElem?_set, if_pos rfl, if_pos hl]
        · intro q
          show (s.ths.set n _).set n q = _
          rw [List.set_set]
  · exact ⟨h.mono (Nat.le_succ i), hF⟩
theorem DI.run (m : Mach) : ∀ (l : List Nat) (i : Nat) (s : PS), DI i s → FI s.evs → DI (i + l.length) (prun m i l s) ∧ FI (prun m i l s).evs
  | [], i, s, h, hF => ⟨h, hF⟩
  | n :: l, i, s, h, hF => by
    obtain ⟨h2, hF2⟩ := h.step (m := m) (n := n) hF
    have := DI.run m l (i + 1) _ h2 hF2
    rw [List.length_cons, show i + (l.length + 1) = i + 1 + l.length by omega]
    exact this
theorem play_di (m : Mach) (l : List Nat) : DI l.length (play m l) := by
  have h := (DI.run m l 0 (pinit m) (DI.init m) (fun k e hk => by simp [pinit] at hk)).1
  rw [Nat.zero_add] at h
  exact h
theorem play_fin (m : Mach) (l : List Nat) : FI (play m l).evs := (DI.run m l 0 (pinit m) (DI.init m) (fun k e hk => by simp [pinit] at hk)).2
end Go.Proofs.YtabmkjokeeakdaaDoor
