/-
  What every run keeps: an induction over its steps.
-/
import Derived.Test.YtabmkjokeeakdaaDoorDoing2
namespace Go.Proofs.YtabmkjokeeakdaaDoor
open Go.RowKit
set_option linter.unusedVariables false

/-- steps of thread t among the first i, from b on -/
def cnt (l : List Nat) (b i t : Nat) : Nat := ((l.drop b).take (i - b)).count t
theorem cnt_self (l : List Nat) (b t : Nat) : cnt l b b t = 0 := by simp [cnt]
theorem cnt_next {l : List Nat} {b i t x : Nat} (h : l[i]? = some x) (hb : b ≤ i) : cnt l b (i + 1) t = cnt l b i t + (if x = t then 1 else 0) := by
  have e1 : i + 1 - b = (i - b) + 1 := by omega
  have e2 : (l.drop b)[i - b]? = some x := by rw [List.getElem?_drop, show b + (i - b) = i by omega, h]
  unfold cnt
  rw [e1, List.take_add_one, e2, List.count_append]
  by_cases e : x = t
  · subst e; simp
  · simp [e]
/-- what the steps of a run keep -/
structure PKeeps (m : Mach) (l : List Nat) (I : Nat → List PT → List Int → List Dg → Prop) : Prop where
  idle : ∀ i s n, l[i]? = some n → DI i s → I i s.ths s.words (doings s.evs) → (∀ p, s.ths[n]? = some p → p.cur = none) → I (i + 1) s.ths s.words (doings s.evs)
  begin_ : ∀ i s n nx calls c, l[i]? = some n → DI i s → I i s.ths s.words (doings s.evs) → s.ths[n]? = some ⟨nx, none⟩ → m.threads[n]? = some calls → calls[nx]? = some c →
    I i (s.ths.set n ⟨nx + 1, some (c.code, vbegin (m.codes.getD c.code []).length c.args)⟩) s.words (doings s.evs ++ [⟨i, none, n, nx, []⟩])
  cont : ∀ i s n nx ci t, l[i]? = some n → DI (i + 1) s → I i s.ths s.words (doings s.evs) → s.ths[n]? = some ⟨nx, some (ci, t)⟩ → (vstep (m.codes.getD ci []) t s.words).1.over = false →
    I (i + 1) (s.ths.set n ⟨nx, some (ci, (vstep (m.codes.getD ci []) t s.words).1)⟩) (vstep (m.codes.getD ci []) t s.words).2 (doings s.evs)
  fin_ : ∀ i s n nx ci t k d, l[i]? = some n → DI (i + 1) s → I i s.ths s.words (doings s.evs) → s.ths[n]? = some ⟨nx, some (ci, t)⟩ → (vstep (m.codes.getD ci []) t s.words).1.over = true →
    (doings s.evs)[k]? = some d → d.t = n → d.c = nx - 1 → d.e = none → d.told = [] →
    I (i + 1) (s.ths.set n ⟨nx, none⟩) (vstep (m.codes.getD ci []) t s.words).2 ((doings s.evs).set k { d with e := some i, told := (vstep (m.codes.getD ci []) t s.words).1.told }) ∧ (vstep (m.codes.getD ci []) t s.words).1.err = 0
def NoErr (es : List Ev) : Prop := ∀ e ∈ es, e.err = 0
theorem NoErr.snoc {es : List Ev} {e : Ev} (h : NoErr es) (he : e.err = 0) : NoErr (es ++ [e]) := by
  intro x hx
  rcases List.mem_append.1 hx with h1 | h1
  · exact h x h1
  · rw [List.mem_singleton.1 h1]; exact he
/-- a thread is in one call alone -/
theorem DI.own {i : Nat} {s : PS} (h : DI i s) {n nx : Nat} {x : Nat × Th} (hn : s.ths[n]? = some ⟨nx, some x⟩) {j k : Nat} {d d' : Dg} (hj : (doings s.evs)[j]? = some d) (hk : (doings s.evs)[k]? = some d') (ht : d.t = n) (ht' : d'.t = n) (he : d.e = none) (he' : d'.e = none) : j = k := by
  obtain ⟨p, hp, _, h1⟩ := h.lt j d hj
  obtain ⟨p', hp', _, h2⟩ := h.lt k d' hk
  rw [ht, hn] at hp; rw [ht', hn] at hp'
  injection hp with hp; injection hp' with hp'
  subst hp hp'
  have a1 := (h1.1 he).2
  have a2 := (h2.1 he').2
  exact h.uniq j k d d' hj hk (by rw [ht, ht']) (by omega)
/-- a thread that is in no call has none under way -/
theorem DI.rest {i : Nat} {s : PS} (h : DI i s) {n nx : Nat} (hn : s.ths[n]? = some ⟨nx, none⟩) {j : Nat} {d : Dg} (hj : (doings s.evs)[j]? = some d) (he : d.e = none) : d.t ≠ n := by
  intro ht
  obtain ⟨p, hp, _, h1⟩ := h.lt j d hj
  rw [ht, hn] at hp
  injection hp with hp
  subst hp
  exact absurd (h1.1 he).1 (by simp)
theorem get_snoc {α : Type} {l : List α} {x y : α} {k : Nat} (h : (l ++ [x])[k]? = some y) : l[k]? = some y ∨ (k = l.length ∧ y = x) := by
  rw [List.getElem?_append] at h
  split at h
  · exact .inl h
  · rw [List.getElem?_singleton] at h
    split at h
    · injection h with h; exact .inr ⟨by omega, h.symm⟩
    · cases h
theorem snoc_get {α : Type} {l : List α} {y : α} {k : Nat} (h : l[k]? = some y) (x : α) : (l ++ [x])[k]? = some y := by
  rw [List.getElem?_append_left (List.getElem?_eq_some_iff.1 h).1, h]
theorem set_get {α : Type} {l : List α} {y : α} {k j : Nat} (h : l[k]? = some y) (hj : j ≠ k) (x : α) : (l.set j x)[k]? = some y := by
  rw [List.getElem?_set, if_neg hj, h]
theorem set_at {α : Type} {l : List α} {y : α} {k : Nat} (h : l[k]? = some y) (x : α) : (l.set k x)[k]? = some x := by
  rw [List.getElem?_set, if_pos rfl, if_pos (List.getElem?_eq_some_iff.1 h).1]
section
variable {m : Mach} {l : List Nat} {I : Nat → List PT → List Int → List Dg → Prop}
theorem PKeeps.act (K : PKeeps m l I) {i n : Nat} (hi : l[i]? = some n) {s s1 : PS} {p1 : PT} {u : List Ev} (h1 : DI (i + 1) s1) (hN : NoErr s1.evs) (hI : I i s1.ths s1.words (doings s1.evs)) (hn : s1.ths[n]? = some p1) (he : s1.evs = s.evs ++ u) (hw : s1.words = s.words) (hset : ∀ q, s1.ths.set n q = s.ths.set n q) (hc : p1.cur.isSome = true) :
    I (i + 1) (pact m i n (p1, u) s).ths (pact m i n (p1, u) s).words (doings (pact m i n (p1, u) s).evs) ∧ NoErr (pact m i n (p1, u) s).evs := by
  obtain ⟨nx, cur⟩ := p1
  cases cur with
  | none => cases hc
  | some x =>
    obtain ⟨ci, t⟩ := x
    unfold pact
    simp only
    rw [← hw]
    split
    · rename_i hov
      obtain ⟨k, d, hd, ht, hdc, hde, hdt⟩ := h1.cur hn rfl
      obtain ⟨h2, h3⟩ := K.fin_ i s1 n nx ci t k d hi h1 hI hn hov hd ht hdc hde hdt
      refine ⟨?_, ?_⟩
      · show I (i + 1) (s.ths.set n ⟨nx, none⟩) _ (doings (s.evs ++ (u ++ _)))
        rw [← hset, ← List.append_assoc, ← he, doings_snoc, dstep_fin h1 hn hd ht hdc hde]
        exact h2
      · show NoErr (s.evs ++ (u ++ _))
        rw [← List.append_assoc, ← he]
        exact hN.snoc h3
    · rename_i hov
      have hov' : (vstep (m.codes.getD ci []) t s1.words).1.over = false := by
        cases hx : (vstep (m.codes.getD ci []) t s1.words).1.over with
        | false => rfl
        | true => exact absurd hx hov
      refine ⟨?_, ?_⟩
      · show I (i + 1) (s.ths.set n _) _ (doings (s.evs ++ u))
        rw [← hset, ← he]
        exact K.cont i s1 n nx ci t hi h1 hI hn hov'
      · show NoErr (s.evs ++ u)
        rw [← he]
        exact hN
theorem PKeeps.step (K : PKeeps m l I) {i n : Nat} (hi : l[i]? = some n) {s : PS} (h : DI i s) (hN : NoErr s.evs) (hI : I i s.ths s.words (doings s.evs)) (hT : s.ths.length = m.threads.length) :
    I (i + 1) (pstep m i n s).ths (pstep m i n s).words (doings (pstep m i n s).evs) ∧ NoErr (pstep m i n s).evs := by
  unfold pstep
  split
  · rename_i p calls hn hc
    obtain ⟨nx, cur⟩ := p
    cases cur with
    | some x => exact K.act hi (h.mono (Nat.le_succ i)) hN hI hn (List.append_nil _).symm rfl (fun _ => rfl) rfl
    | none =>
      unfold pbeg
      simp only
      split
      · exact ⟨K.idle i s n hi h hI (fun p hp => by rw [hn] at hp; injection hp with hp; rw [← hp]), hN⟩
      · rename_i c hcc
        have hl := (List.getElem?_eq_some_iff.1 hn).1
        have hD := h.begin (c.code, vbegin (m.codes.getD c.code []).length c.args) s.words hn
        have hds : doings (s.evs ++ [⟨i, n, nx, false, 0, []⟩]) = doings s.evs ++ [⟨i, none, n, nx, []⟩] := by rw [doings_snoc]; rfl
        refine K.act hi hD (hN.snoc rfl) (by simp only; rw [hds]; exact K.begin_ i s n nx calls c hi h hI hn hc hcc) ?_ rfl rfl ?_ rfl
        · show (s.ths.set n _)[n]? = _
          rw [List.getElem?_set, if_pos rfl, if_pos hl]
        · intro q
          show (s.ths.set n _).set n q = _
          rw [List.set_set]
  · rename_i hno
    refine ⟨K.idle i s n hi h hI (fun p hp => ?_), hN⟩
    have h1 := (List.getElem?_eq_some_iff.1 hp).1
    exact absurd (List.getElem?_eq_getElem (l := m.threads) (i := n) (by omega)) (hno p _ hp)
theorem PKeeps.run (K : PKeeps m l I) : ∀ (b a : List Nat) (s : PS), a ++ b = l → DI a.length s → FI s.evs → NoErr s.evs → I a.length s.ths s.words (doings s.evs) → s.ths.length = m.threads.length →
    I l.length (prun m a.length b s).ths (prun m a.length b s).words (doings (prun m a.length b s).evs) ∧ NoErr (prun m a.length b s).evs
  | [], a, s, hl, h, hF, hN, hI, _ => by
    rw [List.append_nil] at hl; subst hl
    exact ⟨hI, hN⟩
  | n :: b, a, s, hl, h, hF, hN, hI, hT => by
    have hi : l[a.length]? = some n := by rw [← hl, List.getElem?_append_right (Nat.le_refl _), Nat.sub_self]; rfl
    obtain ⟨h2, hF2⟩ := h.step (m := m) (n := n) hF
    obtain ⟨h3, h4⟩ := K.step hi h hN hI hT
    have := PKeeps.run K b (a ++ [n]) (pstep m a.length n s) (by rw [List.append_assoc]; exact hl) (by rw [List.length_append]; exact h2) hF2 h4 (by rw [List.length_append]; exact h3) (by rw [pstep_len]; exact hT)
    rw [List.length_append] at this
    exact this
theorem PKeeps.play (K : PKeeps m l I) (h0 : I 0 (pinit m).ths m.words []) : I l.length (play m l).ths (play m l).words (doings (play m l).evs) ∧ NoErr (play m l).evs :=
  K.run l [] (pinit m) rfl (DI.init m) (fun k e hk => by simp [pinit] at hk) (fun e he => by simp [pinit] at he) h0 (by simp [pinit])
end
end Go.Proofs.YtabmkjokeeakdaaDoor
