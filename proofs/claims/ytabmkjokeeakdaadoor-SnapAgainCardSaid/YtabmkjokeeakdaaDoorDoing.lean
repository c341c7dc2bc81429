/-
  The calls of a run, as a plain function of what is told of it.
-/
import Derived.Test.YtabmkjokeeakdaaDoorRunLaw
namespace Go.Proofs.YtabmkjokeeakdaaDoor
open Go.RowKit
set_option linter.unusedVariables false

/-- a call of a run -/
structure Dg where
  b : Nat
  e : Option Nat
  t : Nat
  c : Nat
  told : List Int
deriving DecidableEq
def dopen (ev : Ev) (d : Dg) : Bool := d.t == ev.thread && d.c == ev.call && d.e.isNone
def dstep (ds : List Dg) (ev : Ev) : List Dg :=
  if ev.fin then ds.map (fun d => if dopen ev d then { d with e := some ev.step, told := ev.told } else d) else ds ++ [⟨ev.step, none, ev.thread, ev.call, []⟩]
def doings (evs : List Ev) : List Dg := evs.foldl dstep []
theorem doings_snoc (evs : List Ev) (e : Ev) : doings (evs ++ [e]) = dstep (doings evs) e := by unfold doings; rw [List.foldl_append]; rfl
/-- what every run keeps: which calls are under way -/
structure DI (i : Nat) (s : PS) : Prop where
  ths : ∀ (n : Nat) (p : PT), s.ths[n]? = some p → (∀ c, c < p.next → ∃ (k : Nat) (d : Dg), (doings s.evs)[k]? = some d ∧ d.t = n ∧ d.c = c)
  lt : ∀ (k : Nat) (d : Dg), (doings s.evs)[k]? = some d → ∃ p, s.ths[d.t]? = some p ∧ d.c < p.next ∧ (d.e = none ↔ p.cur.isSome = true ∧ d.c + 1 = p.next)
  uniq : ∀ (j k : Nat) (d d' : Dg), (doings s.evs)[j]? = some d → (doings s.evs)[k]? = some d' → d.t = d'.t → d.c = d'.c → j = k
  time : ∀ (k : Nat) (d : Dg), (doings s.evs)[k]? = some d → d.b < i ∧ ∀ e, d.e = some e → d.b ≤ e ∧ e < i
  pos : ∀ (n : Nat) (p : PT), s.ths[n]? = some p → p.cur.isSome = true → 1 ≤ p.next
  quiet : ∀ (k : Nat) (d : Dg), (doings s.evs)[k]? = some d → d.e = none → d.told = []
theorem DI.init (m : Mach) : DI 0 (pinit m) := by
  have hd : doings (pinit m).evs = [] := rfl
  have hp : ∀ (n : Nat) (p : PT), (pinit m).ths[n]? = some p → p = ⟨0, none⟩ := by
    intro n p h
    unfold pinit at h
    rw [List.getElem?_replicate] at h
    split at h
    · injection h with h; exact h.symm
    · cases h
  refine ⟨fun n p h c hc => ?_, fun k d h => ?_, fun j k d d' h => ?_, fun k d h => ?_, fun n p h hc => ?_, fun k d h => ?_⟩
  · rw [hp n p h] at hc; exact absurd hc (by simp)
  · rw [hd] at h; simp at h
  · rw [hd] at h; simp at h
  · rw [hd] at h; simp at h
  · rw [hp n p h] at hc; cases hc
  · rw [hd] at h; simp at h
/-- the call that a thread is in -/
theorem DI.cur {i : Nat} {s : PS} (h : DI i s) {n : Nat} {p : PT} (hn : s.ths[n]? = some p) (hc : p.cur.isSome = true) :
    ∃ (k : Nat) (d : Dg), (doings s.evs)[k]? = some d ∧ d.t = n ∧ d.c = p.next - 1 ∧ d.e = none ∧ d.told = [] := by
  have hp := h.pos n p hn hc
  obtain ⟨k, d, hd, ht, hdc⟩ := h.ths n p hn (p.next - 1) (by omega)
  obtain ⟨p', hp', _, hiff⟩ := h.lt k d hd
  rw [ht, hn] at hp'
  injection hp' with hp'
  subst hp'
  have he := hiff.2 ⟨hc, by omega⟩
  exact ⟨k, d, hd, ht, hdc, he, h.quiet k d hd he⟩
/-- a call that ends: it alone changes -/
theorem dstep_fin {i : Nat} {s : PS} (h : DI i s) {n : Nat} {p : PT} (hn : s.ths[n]? = some p) {k : Nat} {d : Dg} (hd : (doings s.evs)[k]? = some d) (ht : d.t = n) (hdc : d.c = p.next - 1) (he : d.e = none) (st er : Nat) (told : List Int) :
    dstep (doings s.evs) ⟨st, n, p.next - 1, true, er, told⟩ = (doings s.evs).set k { d with e := some st, told := told } := by
  unfold dstep
  rw [if_pos rfl]
  refine List.ext_getElem? fun j => ?_
  rw [List.getElem?_map, List.getElem?_set]
  by_cases hj : k = j
  · subst hj
    rw [if_pos rfl, if_pos (List.getElem?_eq_some_iff.1 hd).1, hd]
    simp [dopen, ht, hdc, he]
  · rw [if_neg hj]
    cases hx : (doings s.evs)[j]? with
    | none => rfl
    | some x =>
      rw [Option.map_some, if_neg]
      intro ho
      simp only [dopen, Bool.and_eq_true, beq_iff_eq] at ho
      exact hj (h.uniq k j d x hd hx (by rw [ht, ho.1.1]) (by rw [hdc, ho.1.2]))
theorem get_set {α : Type} {l : List α} {n j : Nat} {x y : α} (h : (l.set n x)[j]? = some y) : (j = n ∧ y = x) ∨ (j ≠ n ∧ l[j]? = some y) := by
  by_cases e : n = j
  · subst e
    rw [List.getElem?_set, if_pos rfl] at h
    by_cases hl : n < l.length
    · rw [if_pos hl] at h; injection h with h; exact .inl ⟨rfl, h.symm⟩
    · rw [if_neg hl] at h; cases h
  · rw [List.getElem?_set, if_neg e] at h
    exact .inr ⟨fun e' => e e'.symm, h⟩
theorem DI.mono {i j : Nat} {s : PS} (h : DI i s) (hij : i ≤ j) : DI j s :=
  ⟨h.ths, h.lt, h.uniq, fun k d hd => ⟨by have := (h.time k d hd).1; omega, fun e he => by have := (h.time k d hd).2 e he; omega⟩, h.pos, h.quiet⟩
theorem DI.begin {i : Nat} {s : PS} (h : DI i s) {n nx : Nat} (x : Nat × Th) (ws : List Int) (hn : s.ths[n]? = some ⟨nx, none⟩) :
    DI (i + 1) { ths := s.ths.set n ⟨nx + 1, some x⟩, words := ws, evs := s.evs ++ [⟨i, n, nx, false, 0, []⟩] } := by
  have hl := (List.getElem?_eq_some_iff.1 hn).1
  have hds : doings (s.evs ++ [⟨i, n, nx, false, 0, []⟩]) = doings s.evs ++ [⟨i, none, n, nx, []⟩] := by rw [doings_snoc]; rfl
  have hold : ∀ (k : Nat) (d : Dg), (doings s.evs ++ [⟨i, none, n, nx, []⟩])[k]? = some d → (doings s.evs)[k]? = some d ∨ (k = (doings s.evs).length ∧ d = ⟨i, none, n, nx, []⟩) := by
    intro k d hk
    rw [List.getElem?_append] at hk
    split at hk
    · exact .inl hk
    · rw [List.getElem?_singleton] at hk
      split at hk
      · injection hk with hk; exact .inr ⟨by omega, hk.symm⟩
      · cases hk
  have hlt : ∀ (k : Nat) (d : Dg), (doings s.evs)[k]? = some d → d.t = n → d.c < nx := by
    intro k d hk ht
    obtain ⟨p, hp, h1, _⟩ := h.lt k d hk
    rw [ht, hn] at hp
    injection hp with hp; subst hp; exact h1
  refine ⟨fun j p hj c hc => ?_, fun k d hk => ?_, fun a b d d' ha hb ht hc => ?_, fun k d hk => ?_, fun j p hj hc => ?_, fun k d hk he => ?_⟩
  · simp only at hj ⊢
    rw [hds]
    rw [List.getElem?_set] at hj
    by_cases e : n = j
    · subst e
      rw [if_pos rfl, if_pos hl] at hj
      injection hj with hj; subst hj
      by_cases e2 : c = nx
      · exact ⟨(doings s.evs).length, _, by rw [List.getElem?_append_right (Nat.le_refl _), Nat.sub_self]; rfl, rfl, e2.symm⟩
      · obtain ⟨k, d, h1, h2⟩ := h.ths n _ hn c (by simp only at hc ⊢; omega)
        exact ⟨k, d, by rw [List.getElem?_append_left (List.getElem?_eq_some_iff.1 h1).1]; exact h1, h2⟩
    · rw [if_neg e] at hj
      obtain ⟨k, d, h1, h2⟩ := h.ths j p hj c hc
      exact ⟨k, d, by rw [List.getElem?_append_left (List.getElem?_eq_some_iff.1 h1).1]; exact h1, h2⟩
  · simp only at hk ⊢
    rw [hds] at hk
    rw [List.getElem?_set]
    rcases hold k d hk with h1 | ⟨_, rfl⟩
    · obtain ⟨p, hp, h2, h3⟩ := h.lt k d h1
      by_cases e : n = d.t
      · rw [if_pos e, if_pos hl]
        rw [← e, hn] at hp
        injection hp with hp; subst hp
        refine ⟨_, rfl, by simp only at h2 ⊢; omega, ?_⟩
        have hne : d.e ≠ none := fun he => by have := (h3.1 he).1; cases this
        exact ⟨fun he => absurd he hne, fun he => by simp only at he h2; omega⟩
      · rw [if_neg e]; exact ⟨p, hp, h2, h3⟩
    · rw [if_pos rfl, if_pos hl]
      exact ⟨_, rfl, Nat.lt_succ_self _, by simp⟩
  · simp only at ha hb
    rw [hds] at ha hb
    rcases hold a d ha with h1 | ⟨h1, rfl⟩
    · rcases hold b d' hb with h2 | ⟨h2, rfl⟩
      · exact h.uniq a b d d' h1 h2 ht hc
      · have := hlt a d h1 ht; simp only at hc; omega
    · rcases hold b d' hb with h2 | ⟨h2, rfl⟩
      · have := hlt b d' h2 ht.symm; simp only at hc; omega
      · omega
  · simp only at hk
    rw [hds] at hk
    rcases hold k d hk with h1 | ⟨_, rfl⟩
    · have := h.time k d h1
      exact ⟨by omega, fun e he => by have := this.2 e he; omega⟩
    · exact ⟨Nat.lt_succ_self _, fun e he => by cases he⟩
  · rcases get_set hj with ⟨_, rfl⟩ | ⟨_, h1⟩
    · exact Nat.succ_le_succ (Nat.zero_le _)
    · exact h.pos j p h1 hc
  · simp only at hk
    rw [hds] at hk
    rcases hold k d hk with h1 | ⟨_, rfl⟩
    · exact h.quiet k d h1 he
    · rfl
theorem DI.cont {i : Nat} {s : PS} (h : DI i s) {n nx : Nat} {x : Nat × Th} (y : Nat × Th) (ws : List Int) (hn : s.ths[n]? = some ⟨nx, some x⟩) :
    DI i { ths := s.ths.set n ⟨nx, some y⟩, words := ws, evs := s.evs } := by
  have hl := (List.getElem?_eq_some_iff.1 hn).1
  have hg : ∀ (j : Nat) (p : PT), (s.ths.set n ⟨nx, some y⟩)[j]? = some p → ∃ p', s.ths[j]? = some p' ∧ p'.next = p.next ∧ p'.cur.isSome = p.cur.isSome := by
    intro j p hj
    rcases get_set hj with ⟨rfl, rfl⟩ | ⟨_, h1⟩
    · exact ⟨_, hn, rfl, rfl⟩
    · exact ⟨p, h1, rfl, rfl⟩
  refine ⟨fun j p hj c hc => ?_, fun k d hk => ?_, h.uniq, h.time, fun j p hj hc => ?_, h.quiet⟩
  · obtain ⟨p', h1, h2, _⟩ := hg j p hj
    exact h.ths j p' h1 c (by rw [h2]; exact hc)
  · obtain ⟨p, hp, h2, h3⟩ := h.lt k d hk
    simp only
    by_cases e : n = d.t
    · rw [← e, hn] at hp
      injection hp with hp; subst hp
      exact ⟨⟨nx, some y⟩, by rw [List.getElem?_set, if_pos e, if_pos hl], h2, h3⟩
    · exact ⟨p, by rw [List.getElem?_set, if_neg e]; exact hp, h2, h3⟩
  · obtain ⟨p', h1, h2, h3⟩ := hg j p hj
    rw [← h2]; exact h.pos j p' h1 (by rw [h3]; exact hc)
theorem DI.fin {i st : Nat} {s : PS} (h : DI i s) {n nx : Nat} {x : Nat × Th} (ws : List Int) (er : Nat) (told : List Int) (hn : s.ths[n]? = some ⟨nx, some x⟩) (hst : st < i) (hb : ∀ (k : Nat) (d : Dg), (doings s.evs)[k]? = some d → d.b ≤ st) :
    ∃ (k : Nat) (d : Dg), (doings s.evs)[k]? = some d ∧ d.t = n ∧ d.c = nx - 1 ∧ d.e = none ∧ doings (s.evs ++ [⟨st, n, nx - 1, true, er, told⟩]) = (doings s.evs).set k { d with e := some st, told := told } ∧
    DI i { ths := s.ths.set n ⟨nx, none⟩, words := ws, evs := s.evs ++ [⟨st, n, nx - 1, true, er, told⟩] } := by
  have hl := (List.getElem?_eq_some_iff.1 hn).1
  obtain ⟨k0, d0, hd0, ht0, hc0, he0, _⟩ := h.cur hn rfl
  have hpos := h.pos n _ hn rfl
  simp only at hc0 hpos
  have hds : doings (s.evs ++ [⟨st, n, nx - 1, true, er, told⟩]) = (doings s.evs).set k0 { d0 with e := some st, told := told } := by
    rw [doings_snoc]; exact dstep_fin h hn hd0 ht0 hc0 he0 st er told
  have hk0 := (List.getElem?_eq_some_iff.1 hd0).1
  refine ⟨k0, d0, hd0, ht0, hc0, he0, hds, ?_⟩
  have hg : ∀ (k : Nat) (d : Dg), ((doings s.evs).set k0 { d0 with e := some st, told := told })[k]? = some d → (k = k0 ∧ d = { d0 with e := some st, told := told }) ∨ (k ≠ k0 ∧ (doings s.evs)[k]? = some d) := by
    intro k d hk
    exact get_set hk
  have hback : ∀ (k : Nat) (d : Dg), (doings s.evs)[k]? = some d → ∃ d', ((doings s.evs).set k0 { d0 with e := some st, told := told })[k]? = some d' ∧ d'.t = d.t ∧ d'.c = d.c := by
    intro k d hk
    rw [List.getElem?_set]
    by_cases e : k0 = k
    · subst e
      rw [if_pos rfl, if_pos hk0]
      rw [hd0] at hk; injection hk with hk; subst hk
      exact ⟨_, rfl, rfl, rfl⟩
    · rw [if_neg e]; exact ⟨d, hk, rfl, rfl⟩
  refine ⟨fun j p hj c hc => ?_, fun k d hk => ?_, fun a b d d' ha hb' ht hc => ?_, fun k d hk => ?_, fun j p hj hc => ?_, fun k d hk he => ?_⟩
  · simp only at hj ⊢
    rw [hds]
    have : ∃ p', s.ths[j]? = some p' ∧ p'.next = p.next := by
      rcases get_set hj with ⟨rfl, rfl⟩ | ⟨_, h1⟩
      · exact ⟨_, hn, rfl⟩
      · exact ⟨p, h1, rfl⟩
    obtain ⟨p', h1, h2⟩ := this
    obtain ⟨k, d, h3, h4, h5⟩ := h.ths j p' h1 c (by rw [h2]; exact hc)
    obtain ⟨d', h6, h7, h8⟩ := hback k d h3
    exact ⟨k, d', h6, by rw [h7, h4], by rw [h8, h5]⟩
  · simp only at hk ⊢
    rw [hds] at hk
    rcases hg k d hk with ⟨rfl, rfl⟩ | ⟨hne, h1⟩
    · simp only [ht0, hc0]
      rw [List.getElem?_set, if_pos rfl, if_pos hl]
      exact ⟨_, rfl, by simp only; omega, by simp⟩
    · obtain ⟨p, hp, h2, h3⟩ := h.lt k d h1
      by_cases e : n = d.t
      · rw [← e, hn] at hp
        injection hp with hp; subst hp
        rw [List.getElem?_set, if_pos e, if_pos hl]
        refine ⟨_, rfl, h2, fun he => ?_, fun he => by simp at he⟩
        have := (h3.1 he).2
        simp only at this
        exact absurd (h.uniq k k0 d d0 h1 hd0 (by rw [ht0, e]) (by omega)) hne
      · rw [List.getElem?_set, if_neg e]; exact ⟨p, hp, h2, h3⟩
  · simp only at ha hb'
    rw [hds] at ha hb'
    have key : ∀ (k : Nat) (d : Dg), ((doings s.evs).set k0 { d0 with e := some st, told := told })[k]? = some d → ∃ d', (doings s.evs)[k]? = some d' ∧ d'.t = d.t ∧ d'.c = d.c := by
      intro k d hk
      rcases hg k d hk with ⟨rfl, rfl⟩ | ⟨_, h1⟩
      · exact ⟨d0, hd0, rfl, rfl⟩
      · exact ⟨d, h1, rfl, rfl⟩
    obtain ⟨x1, a1, a2, a3⟩ := key a d ha
    obtain ⟨x2, b1, b2, b3⟩ := key b d' hb'
    exact h.uniq a b x1 x2 a1 b1 (by rw [a2, b2, ht]) (by rw [a3, b3, hc])
  · simp only at hk
    rw [hds] at hk
    rcases hg k d hk with ⟨rfl, rfl⟩ | ⟨_, h1⟩
    · exact ⟨(h.time _ d0 hd0).1, fun e he => by injection he with he; subst he; exact ⟨hb _ d0 hd0, hst⟩⟩
    · exact h.time k d h1
  · rcases get_set hj with ⟨_, rfl⟩ | ⟨_, h1⟩
    · cases hc
    · exact h.pos j p h1 hc
  · simp only at hk
    rw [hds] at hk
    rcases hg k d hk with ⟨rfl, rfl⟩ | ⟨_, h1⟩
    · cases he
    · exact h.quiet k d h1 he
end Go.Proofs.YtabmkjokeeakdaaDoor
