/-
  Runs: the plain law of RunAlone.
-/
import Derived.Test.YtljdnbdmfhcmpaaDoorRunMath
namespace Go.Proofs.YtljdnbdmfhcmpaaDoor
open Go.RowKit
set_option linter.unusedVariables false

theorem set_self0 {α : Type} {l : List α} {n : Nat} {x : α} (h : l[n]? = some x) : l.set n x = l := by
  refine List.ext_getElem? fun j => ?_
  rw [List.getElem?_set]
  split
  · rename_i e
    subst e
    rw [if_pos (List.getElem?_eq_some_iff.1 h).1, h]
  · rfl
/-- one step within a call -/
theorem pstep_in (m : Mach) (i k ci : Nat) (t : Th) (calls : List VCall) (s : PS) (hc : m.threads[0]? = some calls) (hs : s.ths[0]? = some ⟨k, some (ci, t)⟩) :
    pstep m i 0 s = if (vstep (m.codes.getD ci []) t s.words).1.over then { ths := s.ths.set 0 ⟨k, none⟩, words := (vstep (m.codes.getD ci []) t s.words).2, evs := s.evs ++ [⟨i, 0, k - 1, true, (vstep (m.codes.getD ci []) t s.words).1.err, (vstep (m.codes.getD ci []) t s.words).1.told⟩] }
      else { ths := s.ths.set 0 ⟨k, some (ci, (vstep (m.codes.getD ci []) t s.words).1)⟩, words := (vstep (m.codes.getD ci []) t s.words).2, evs := s.evs } := by
  unfold pstep
  rw [hs, hc]
  show pact m i 0 (pbeg m i 0 calls ⟨k, some (ci, t)⟩) s = _
  have hb : pbeg m i 0 calls ⟨k, some (ci, t)⟩ = (⟨k, some (ci, t)⟩, []) := rfl
  rw [hb]
  unfold pact
  simp only [List.nil_append, List.append_nil]
/-- a call's steps -/
theorem prun_call (m : Mach) (k ci : Nat) (calls : List VCall) (hc : m.threads[0]? = some calls) : ∀ (L i : Nat) (t : Th) (s : PS), s.ths[0]? = some ⟨k, some (ci, t)⟩ → t.over = false →
    ((vrun (m.codes.getD ci []) L (t, s.words)).1.over = true → 1 ≤ vcount (m.codes.getD ci []) L (t, s.words) ∧ vcount (m.codes.getD ci []) L (t, s.words) ≤ L ∧
      ∃ st, prun m i (List.replicate (vcount (m.codes.getD ci []) L (t, s.words)) 0) s = { ths := s.ths.set 0 ⟨k, none⟩, words := (vrun (m.codes.getD ci []) L (t, s.words)).2, evs := s.evs ++ [⟨st, 0, k - 1, true, (vrun (m.codes.getD ci []) L (t, s.words)).1.err, (vrun (m.codes.getD ci []) L (t, s.words)).1.told⟩] }) ∧
    ((vrun (m.codes.getD ci []) L (t, s.words)).1.over = false → (prun m i (List.replicate L 0) s).evs = s.evs)
  | 0, i, t, s, hs, ht => by
    refine ⟨fun h => ?_, fun _ => rfl⟩
    simp only [vrun] at h
    rw [ht] at h; cases h
  | L + 1, i, t, s, hs, ht => by
    have h0 : ¬ ((t, s.words) : Th × List Int).1.over = true := by rw [show ((t, s.words) : Th × List Int).1.over = t.over from rfl, ht]; decide
    have er : vrun (m.codes.getD ci []) (L + 1) (t, s.words) = vrun (m.codes.getD ci []) L (vstep (m.codes.getD ci []) t s.words) := by rw [vrun, if_neg h0]
    have ec : vcount (m.codes.getD ci []) (L + 1) (t, s.words) = vcount (m.codes.getD ci []) L (vstep (m.codes.getD ci []) t s.words) + 1 := by rw [vcount, if_neg h0]
    have hp := pstep_in m i k ci t calls s hc hs
    rw [er, ec]
    obtain ⟨⟨t', ws'⟩, hv⟩ : ∃ r, vstep (m.codes.getD ci []) t s.words = r := ⟨_, rfl⟩
    rw [hv] at hp ⊢
    have hl := (List.getElem?_eq_some_iff.1 hs).1
    cases hov : t'.over
    · rw [if_neg (by simp [hov])] at hp
      have ih := prun_call m k ci calls hc L (i + 1) t' (pstep m i 0 s) (by rw [hp]; exact List.getElem?_set_self hl) hov
      have e1 : (pstep m i 0 s).words = ws' := by rw [hp]
      have e2 : (pstep m i 0 s).evs = s.evs := by rw [hp]
      have e3 : (pstep m i 0 s).ths.set 0 ⟨k, none⟩ = s.ths.set 0 ⟨k, none⟩ := by rw [hp]; simp [List.set_set]
      rw [e1, e2, e3] at ih
      refine ⟨fun h => ?_, fun h => ?_⟩
      · obtain ⟨a, b, st, c⟩ := ih.1 h
        exact ⟨by omega, by omega, st, by rw [List.replicate_succ, prun]; exact c⟩
      · rw [List.replicate_succ, prun]; exact ih.2 h
    · rw [if_pos (by simp [hov])] at hp
      obtain ⟨a1, a2⟩ := vrun_over (m.codes.getD ci []) L (t', ws') hov
      rw [a1, a2]
      refine ⟨fun _ => ⟨by omega, by omega, i, ?_⟩, fun h => ?_⟩
      · rw [Nat.zero_add, List.replicate_succ, prun, List.replicate_zero, prun, hp]
      · rw [show ((t', ws') : Th × List Int).1.over = t'.over from rfl, hov] at h; cases h
/-- a thread that is alone, between two calls -/
def AloneAt (m : Mach) (T : PS) (k left : Nat) (now : List Int) : Prop :=
  ∃ i s, prun m i (List.replicate left 0) s = T ∧ s.ths[0]? = some ⟨k, none⟩ ∧ s.words = now ∧ s.evs.length = 2 * k
theorem AloneAt.start (m : Mach) (L : Nat) (h : 0 < m.threads.length) : AloneAt m (play m (List.replicate L 0)) 0 L m.words :=
  ⟨0, pinit m, rfl, by unfold pinit; rw [List.getElem?_replicate, if_pos h], rfl, rfl⟩
theorem AloneAt.zero {m : Mach} {T : PS} {k : Nat} {now : List Int} (h : AloneAt m T k 0 now) : T.evs.length = 2 * k := by
  obtain ⟨i, s, h1, _, _, h4⟩ := h
  rw [← h1]; exact h4
theorem AloneAt.done {m : Mach} {T : PS} {k left : Nat} {now : List Int} {calls : List VCall} (h : AloneAt m T k left now) (hc : m.threads[0]? = some calls) (hk : calls.length ≤ k) : T.evs.length = 2 * k ∧ T.words = now := by
  obtain ⟨i, s, h1, h2, h3, h4⟩ := h
  have hst : ∀ j, pstep m j 0 s = s := fun j => by
    unfold pstep
    rw [h2, hc]
    show pact m j 0 (pbeg m j 0 calls ⟨k, none⟩) s = s
    have hb : pbeg m j 0 calls ⟨k, none⟩ = (⟨k, none⟩, []) := by unfold pbeg; simp only; rw [List.getElem?_eq_none hk]
    rw [hb]; rfl
  have : ∀ L j, prun m j (List.replicate L 0) s = s := by
    intro L
    induction L with
    | zero => intro j; rfl
    | succ L ih => intro j; rw [List.replicate_succ, prun, hst, ih]
  rw [this] at h1
  rw [← h1]; exact ⟨h4, h3⟩
/-- the first step of a call -/
theorem pstep_first (m : Mach) (i k : Nat) (calls : List VCall) (c : VCall) (s : PS) (hc : m.threads[0]? = some calls) (hk : calls[k]? = some c) (hs : s.ths[0]? = some ⟨k, none⟩) :
    pstep m i 0 s = pstep m i 0 { ths := s.ths.set 0 ⟨k + 1, some (c.code, vbegin (m.codes.getD c.code []).length c.args)⟩, words := s.words, evs := s.evs ++ [⟨i, 0, k, false, 0, []⟩] } := by
  have hl := (List.getElem?_eq_some_iff.1 hs).1
  rw [pstep_in m i (k + 1) c.code _ calls { ths := s.ths.set 0 ⟨k + 1, some (c.code, vbegin (m.codes.getD c.code []).length c.args)⟩, words := s.words, evs := s.evs ++ [⟨i, 0, k, false, 0, []⟩] } hc (List.getElem?_set_self hl)]
  unfold pstep
  rw [hs, hc]
  show pact m i 0 (pbeg m i 0 calls ⟨k, none⟩) s = _
  have hb : pbeg m i 0 calls ⟨k, none⟩ = (⟨k + 1, some (c.code, vbegin (m.codes.getD c.code []).length c.args)⟩, [⟨i, 0, k, false, 0, []⟩]) := by unfold pbeg; simp only; rw [hk]
  rw [hb]
  unfold pact
  simp only [List.set_set, List.append_assoc]
theorem AloneAt.next {m : Mach} {T : PS} {k left : Nat} {now : List Int} {calls : List VCall} {c : VCall} {code : List Op5} (h : AloneAt m T k left now) (hc : m.threads[0]? = some calls) (hk : calls[k]? = some c) (hcode : m.codes[c.code]? = some code) (hl : 0 < left) :
    ((vrun code left (vbegin code.length c.args, now)).1.over = false → T.evs.length = 2 * k + 1) ∧
    ((vrun code left (vbegin code.length c.args, now)).1.over = true → max 1 (vcount code left (vbegin code.length c.args, now)) ≤ left ∧ AloneAt m T (k + 1) (left - max 1 (vcount code left (vbegin code.length c.args, now))) (vrun code left (vbegin code.length c.args, now)).2 ∧
      ∃ eB eE, T.evs[2 * k]? = some eB ∧ T.evs[2 * k + 1]? = some eE ∧ eB.fin = false ∧ eE.fin = true ∧ eE.call = k ∧ eE.err = (vrun code left (vbegin code.length c.args, now)).1.err ∧ eE.told = (vrun code left (vbegin code.length c.args, now)).1.told) := by
  obtain ⟨i, s, h1, h2, h3, h4⟩ := h
  have hcg : m.codes.getD c.code [] = code := by rw [List.getD_eq_getElem?_getD, hcode]; rfl
  obtain ⟨sB, hsB⟩ : ∃ sB : PS, ({ ths := s.ths.set 0 ⟨k + 1, some (c.code, vbegin code.length c.args)⟩, words := s.words, evs := s.evs ++ [⟨i, 0, k, false, 0, []⟩] } : PS) = sB := ⟨_, rfl⟩
  have hlt := (List.getElem?_eq_some_iff.1 h2).1
  have b1 : sB.ths[0]? = some ⟨k + 1, some (c.code, vbegin code.length c.args)⟩ := by rw [← hsB]; exact List.getElem?_set_self hlt
  have b2 : sB.words = now := by rw [← hsB]; exact h3
  have b3 : sB.evs = s.evs ++ [⟨i, 0, k, false, 0, []⟩] := by rw [← hsB]
  have b4 : sB.evs.length = 2 * k + 1 := by rw [b3, List.length_append, h4]; rfl
  have hlb : 0 < sB.ths.length := (List.getElem?_eq_some_iff.1 b1).1
  have hf := pstep_first m i k calls c s hc hk h2
  rw [hcg, hsB] at hf
  have hT : prun m i (List.replicate left 0) sB = T := by
    rw [← h1]
    obtain ⟨q, rfl⟩ : ∃ q, left = q + 1 := ⟨left - 1, by omega⟩
    rw [List.replicate_succ, prun, prun, hf]
  generalize vbegin code.length c.args = t at *
  -- what follows a whole call
  have tail : ∀ (N : Nat) (r : Th × List Int) (st : Nat), 1 ≤ N → N ≤ left → prun m i (List.replicate N 0) sB = { ths := sB.ths.set 0 ⟨k + 1, none⟩, words := r.2, evs := sB.evs ++ [⟨st, 0, k + 1 - 1, true, r.1.err, r.1.told⟩] } →
      AloneAt m T (k + 1) (left - N) r.2 ∧ ∃ eB eE, T.evs[2 * k]? = some eB ∧ T.evs[2 * k + 1]? = some eE ∧ eB.fin = false ∧ eE.fin = true ∧ eE.call = k ∧ eE.err = r.1.err ∧ eE.told = r.1.told := by
    intro N r st hN hNl hp
    have hsp : List.replicate left 0 = List.replicate N 0 ++ List.replicate (left - N) 0 := by rw [List.replicate_append_replicate, show N + (left - N) = left by omega]
    have hT2 := hT
    rw [hsp, prun_append, hp, List.length_replicate] at hT2
    refine ⟨⟨i + N, _, hT2, List.getElem?_set_self hlb, rfl, by simp only [List.length_append, b4, List.length_singleton]; omega⟩, ?_⟩
    obtain ⟨u, hu, _⟩ := prun_evs m (List.replicate (left - N) 0) (i + N) { ths := sB.ths.set 0 ⟨k + 1, none⟩, words := r.2, evs := sB.evs ++ [⟨st, 0, k + 1 - 1, true, r.1.err, r.1.told⟩] }
    rw [hT2] at hu
    simp only [b3] at hu
    refine ⟨⟨i, 0, k, false, 0, []⟩, ⟨st, 0, k + 1 - 1, true, r.1.err, r.1.told⟩, ?_, ?_, rfl, rfl, rfl, rfl, rfl⟩
    · rw [hu, List.append_assoc, List.append_assoc, List.getElem?_append_right (by omega), h4, Nat.sub_self]; rfl
    · rw [hu, List.append_assoc, List.append_assoc, List.getElem?_append_right (by omega), h4, show 2 * k + 1 - 2 * k = 1 by omega]; rfl
  cases hov : t.over
  · obtain ⟨c1, c2⟩ := prun_call m (k + 1) c.code calls hc left i t sB b1 hov
    rw [hcg, b2] at c1 c2
    refine ⟨fun h => ?_, fun h => ?_⟩
    · rw [← hT, c2 h, b4]
    · obtain ⟨d1, d2, st, d3⟩ := c1 h
      rw [show max 1 (vcount code left (t, now)) = vcount code left (t, now) by omega]
      obtain ⟨e1, e2⟩ := tail _ (vrun code left (t, now)) st d1 d2 d3
      exact ⟨d2, e1, e2⟩
  · obtain ⟨a1, a2⟩ := vrun_over code left (t, now) hov
    rw [a1, a2]
    have hp := pstep_in m i (k + 1) c.code t calls sB hc b1
    have hvs : vstep (m.codes.getD c.code []) t sB.words = (t, now) := by unfold vstep; rw [if_pos hov, b2]
    rw [hvs, if_pos hov] at hp
    refine ⟨fun h => ?_, fun _ => ?_⟩
    · rw [show ((t, now) : Th × List Int).1.over = t.over from rfl, hov] at h; cases h
    · obtain ⟨e1, e2⟩ := tail 1 (t, now) i (Nat.le_refl _) hl (by rw [List.replicate_succ, prun, List.replicate_zero, prun, hp])
      exact ⟨hl, e1, e2⟩
end Go.Proofs.YtljdnbdmfhcmpaaDoor
