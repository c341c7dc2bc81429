/-
  Runs: plain laws (RunBetween, RunIdle, RunAlone).
-/
import Derived.Test.YtabmkjokeeakdaaDoorRunMath
namespace Go.Proofs.YtabmkjokeeakdaaDoor
open Go.RowKit
set_option linter.unusedVariables false

/-! ### RunBetween -/
/-- is a thread in a call, by what is told of it? -/
def inOf (es : List Ev) (j : Nat) : Bool := es.foldl (fun b e => if e.thread = j then !e.fin else b) false
/-- how many of its calls have ended -/
def nextOf (es : List Ev) (j : Nat) : Nat := es.foldl (fun n e => if e.thread = j ∧ e.fin = true then n + 1 else n) 0
def lastOf (es : List Ev) : Int := es.foldl (fun _ e => (e.step : Int)) (-1)
theorem inOf_snoc (es : List Ev) (e : Ev) (j : Nat) : inOf (es ++ [e]) j = if e.thread = j then !e.fin else inOf es j := by unfold inOf; rw [List.foldl_append]; rfl
theorem nextOf_snoc (es : List Ev) (e : Ev) (j : Nat) : nextOf (es ++ [e]) j = if e.thread = j ∧ e.fin = true then nextOf es j + 1 else nextOf es j := by unfold nextOf; rw [List.foldl_append]; rfl
theorem lastOf_snoc (es : List Ev) (e : Ev) : lastOf (es ++ [e]) = (e.step : Int) := by unfold lastOf; rw [List.foldl_append]; rfl
structure EvOk (m : Mach) (l : List Nat) (es : List Ev) (e : Ev) : Prop where
  thr : e.thread < m.threads.length
  step : lastOf es ≤ (e.step : Int)
  at_ : l[e.step]? = some e.thread
  fin : e.fin = inOf es e.thread
  call : e.call = nextOf es e.thread
  beg : e.fin = false → e.told = [] ∧ e.err = 0
  most : ∀ calls, m.threads[e.thread]? = some calls → nextOf (es ++ [e]) e.thread ≤ calls.length
def AllOk (m : Mach) (l : List Nat) (es : List Ev) : Prop := ∀ k e, es[k]? = some e → EvOk m l (es.take k) e
theorem AllOk.snoc {m : Mach} {l : List Nat} {es : List Ev} {e : Ev} (h : AllOk m l es) (he : EvOk m l es e) : AllOk m l (es ++ [e]) := by
  intro k x hx
  rw [List.getElem?_append] at hx
  split at hx
  · rename_i hk
    rw [List.take_append_of_le_length (by omega)]
    exact h k x hx
  · rw [List.getElem?_singleton] at hx
    split at hx
    · injection hx with hx; subst hx
      rw [List.take_append_of_le_length (by omega), List.take_of_length_le (by omega)]
      exact he
    · cases hx
structure BI (m : Mach) (l : List Nat) (i : Nat) (s : PS) : Prop where
  ok : AllOk m l s.evs
  last : lastOf s.evs < (i : Int)
  ths : ∀ j p, s.ths[j]? = some p → inOf s.evs j = p.cur.isSome ∧ nextOf s.evs j + (if p.cur.isSome then 1 else 0) = p.next ∧ ∀ calls, m.threads[j]? = some calls → p.next ≤ calls.length
theorem BI.init (m : Mach) (l : List Nat) : BI m l 0 (pinit m) := by
  refine ⟨fun k e h => by simp [pinit] at h, by show (-1 : Int) < 0; decide, fun j p h => ?_⟩
  unfold pinit at h
  rw [List.getElem?_replicate] at h
  split at h
  · injection h with h; subst h; exact ⟨rfl, rfl, fun _ _ => Nat.zero_le _⟩
  · cases h
theorem BI.next {m : Mach} {l : List Nat} {i n : Nat} {s : PS} (h : BI m l i s) (hn : l[i]? = some n) : BI m l (i + 1) (pstep m i n s) := by
  have hw : BI m l (i + 1) s := ⟨h.ok, by have := h.last; omega, h.ths⟩
  unfold pstep
  split
  · rename_i p calls hp hc
    obtain ⟨a1, a2, a3⟩ := h.ths n p hp
    have a4 := a3 calls hc
    have hnl := (List.getElem?_eq_some_iff.1 hp).1
    have htl := (List.getElem?_eq_some_iff.1 hc).1
    -- an event that ends the call
    have fin : ∀ (es : List Ev) (nx er : Nat) (told : List Int) (ws : List Int), AllOk m l es → inOf es n = true → nextOf es n + 1 = nx → nx ≤ calls.length → lastOf es ≤ (i : Int) →
        (∀ j p, j ≠ n → s.ths[j]? = some p → inOf es j = p.cur.isSome ∧ nextOf es j + (if p.cur.isSome then 1 else 0) = p.next ∧ ∀ calls, m.threads[j]? = some calls → p.next ≤ calls.length) →
        BI m l (i + 1) { ths := s.ths.set n ⟨nx, none⟩, words := ws, evs := es ++ [⟨i, n, nx - 1, true, er, told⟩] } := by
      intro es nx er told ws h1 h2 h3 h4 h5 h6
      have hcs : ∀ c, m.threads[n]? = some c → nx ≤ c.length := fun c hcc => by rw [hc] at hcc; injection hcc with hcc; subst hcc; exact h4
      have hn1 : nextOf (es ++ [⟨i, n, nx - 1, true, er, told⟩]) n = nx := by rw [nextOf_snoc]; simp; omega
      refine ⟨h1.snoc ⟨htl, h5, hn, h2.symm, by show nx - 1 = nextOf es n; omega, fun hf => (by cases hf), fun c hcc => ?_⟩, ?_, ?_⟩
      · rw [hn1]; exact hcs c hcc
      · simp only; rw [lastOf_snoc]; simp only; omega
      · intro j q hq
        simp only at hq ⊢
        rw [List.getElem?_set] at hq
        by_cases hj : n = j
        · subst hj
          rw [if_pos rfl, if_pos hnl] at hq
          injection hq with hq; subst hq
          rw [hn1, inOf_snoc]
          exact ⟨by simp, rfl, hcs⟩
        · rw [if_neg hj] at hq
          rw [inOf_snoc, nextOf_snoc]
          simp only [hj, false_and, if_false]
          exact h6 j q (fun e => hj e.symm) hq
    have cont : ∀ (es : List Ev) (nx : Nat) (c : Nat × Th) (ws : List Int), AllOk m l es → inOf es n = true → nextOf es n + 1 = nx → nx ≤ calls.length → lastOf es ≤ (i : Int) →
        (∀ j p, j ≠ n → s.ths[j]? = some p → inOf es j = p.cur.isSome ∧ nextOf es j + (if p.cur.isSome then 1 else 0) = p.next ∧ ∀ calls, m.threads[j]? = some calls → p.next ≤ calls.length) →
        BI m l (i + 1) { ths := s.ths.set n ⟨nx, some c⟩, words := ws, evs := es } := by
      intro es nx c ws h1 h2 h3 h4 h5 h6
      refine ⟨h1, by show lastOf es < _; omega, ?_⟩
      intro j q hq
      simp only at hq ⊢
      rw [List.getElem?_set] at hq
      by_cases hj : n = j
      · subst hj
        rw [if_pos rfl, if_pos hnl] at hq
        injection hq with hq; subst hq
        refine ⟨h2, h3, fun c hcc => ?_⟩
        rw [hc] at hcc; injection hcc with hcc; subst hcc; exact h4
      · rw [if_neg hj] at hq
        exact h6 j q (fun e => hj e.symm) hq
    cases hcur : p.cur with
    | some c =>
      obtain ⟨ci, t⟩ := c
      have hb : pbeg m i n calls p = (p, []) := by unfold pbeg; rw [hcur]
      rw [hb]
      unfold pact
      simp only [hcur]
      rw [hcur] at a1 a2
      have b1 : lastOf s.evs ≤ (i : Int) := by have := h.last; omega
      split
      · rw [List.nil_append]
        exact fin s.evs p.next _ _ _ h.ok a1 a2 a4 b1 (fun j q _ hq => h.ths j q hq)
      · rw [List.append_nil]
        exact cont s.evs p.next _ _ h.ok a1 a2 a4 b1 (fun j q _ hq => h.ths j q hq)
    | none =>
      rw [hcur] at a1 a2
      cases hg : calls[p.next]? with
      | none =>
        have hb : pbeg m i n calls p = (p, []) := by unfold pbeg; rw [hcur]; simp only; rw [hg]
        rw [hb]
        unfold pact
        simp only [hcur]
        exact hw
      | some c =>
        have hb : pbeg m i n calls p = (⟨p.next + 1, some (c.code, vbegin (m.codes.getD c.code []).length c.args)⟩, [⟨i, n, p.next, false, 0, []⟩]) := by unfold pbeg; rw [hcur]; simp only; rw [hg]
        have hgl := (List.getElem?_eq_some_iff.1 hg).1
        have a2' : nextOf s.evs n = p.next := a2
        have e1 : AllOk m l (s.evs ++ [⟨i, n, p.next, false, 0, []⟩]) := h.ok.snoc ⟨htl, by have := h.last; simp only; omega, hn, a1.symm, a2'.symm, fun _ => ⟨rfl, rfl⟩, fun c hcc => by
          rw [nextOf_snoc]; simp only [Bool.false_eq_true, and_false, if_false]
          rw [hc] at hcc; injection hcc with hcc; subst hcc; omega⟩
        have e2 : inOf (s.evs ++ [⟨i, n, p.next, false, 0, []⟩]) n = true := by rw [inOf_snoc]; simp
        have e3 : nextOf (s.evs ++ [⟨i, n, p.next, false, 0, []⟩]) n + 1 = p.next + 1 := by rw [nextOf_snoc]; simp [a2']
        have e4 : lastOf (s.evs ++ [⟨i, n, p.next, false, 0, []⟩]) ≤ (i : Int) := by rw [lastOf_snoc]; simp
        have e5 : ∀ j q, j ≠ n → s.ths[j]? = some q → inOf (s.evs ++ [⟨i, n, p.next, false, 0, []⟩]) j = q.cur.isSome ∧ nextOf (s.evs ++ [⟨i, n, p.next, false, 0, []⟩]) j + (if q.cur.isSome then 1 else 0) = q.next ∧ ∀ calls, m.threads[j]? = some calls → q.next ≤ calls.length := by
          intro j q hj hq
          rw [inOf_snoc, nextOf_snoc]
          simp only [if_neg (fun e : n = j => hj e.symm), Bool.false_eq_true, and_false, if_false]
          exact h.ths j q hq
        rw [hb]
        unfold pact
        simp only
        split
        · rw [← List.append_assoc]
          exact fin _ (p.next + 1) _ _ _ e1 e2 e3 hgl e4 e5
        · exact cont _ (p.next + 1) _ _ e1 e2 e3 hgl e4 e5
  · exact hw
theorem BI.run {m : Mach} {l : List Nat} : ∀ (b : List Nat) (i : Nat) (s : PS), BI m l i s → l.drop i = b → ∃ i', BI m l i' (prun m i b s)
  | [], i, s, h, _ => ⟨i, h⟩
  | n :: b, i, s, h, hd => by
    have hn : l[i]? = some n := by
      have := List.getElem?_drop (xs := l) (i := i) (j := 0)
      rw [hd] at this; simpa using this.symm
    refine BI.run b (i + 1) _ (h.next hn) ?_
    have : l.drop (i + 1) = (l.drop i).drop 1 := by rw [List.drop_drop]
    rw [this, hd]; rfl
theorem play_between (m : Mach) (l : List Nat) : AllOk m l (play m l).evs := by
  obtain ⟨i, h⟩ := BI.run (m := m) (l := l) l 0 _ (BI.init m l) rfl
  exact h.ok

/-! ### RunIdle -/
def restep (f : Nat → Nat) (e : Ev) : Ev := { e with step := f e.step }
def PS.re (f : Nat → Nat) (s : PS) : PS := { s with evs := s.evs.map (restep f) }
def prunL (m : Mach) : List (Nat × Nat) → PS → PS
  | [], s => s
  | x :: l, s => prunL m l (pstep m x.1 x.2 s)
theorem prunL_eq (m : Mach) : ∀ (l : List Nat) (i : Nat) (s : PS), prun m i l s = prunL m ((List.range' i l.length).zip l) s
  | [], i, s => rfl
  | n :: l, i, s => by
    rw [List.length_cons, List.range'_succ, List.zip_cons_cons, prun, prunL, prunL_eq m l (i + 1)]
theorem pstep_re (m : Mach) (f : Nat → Nat) (i n : Nat) (s : PS) : pstep m (f i) n (s.re f) = (pstep m i n s).re f := by
  unfold pstep
  have e1 : (s.re f).ths = s.ths := rfl
  rw [e1]
  split
  · rename_i p calls hp hc
    unfold pact
    cases hcur : p.cur with
    | some c =>
      have hb : ∀ k, pbeg m k n calls p = (p, []) := fun k => by unfold pbeg; rw [hcur]
      rw [hb, hb]
      simp only [hcur, PS.re]
      split <;> (rename_i hq; simp [restep]; simpa using hq)
    | none =>
      cases hg : calls[p.next]? with
      | none =>
        have hb : ∀ k, pbeg m k n calls p = (p, []) := fun k => by unfold pbeg; rw [hcur]; simp only; rw [hg]
        rw [hb, hb]
        simp only [hcur]
      | some c =>
        have hb : ∀ k, pbeg m k n calls p = (⟨p.next + 1, some (c.code, vbegin (m.codes.getD c.code []).length c.args)⟩, [⟨k, n, p.next, false, 0, []⟩]) := fun k => by unfold pbeg; rw [hcur]; simp only; rw [hg]
        rw [hb, hb]
        simp only [PS.re]
        split <;> (rename_i hq; simp [restep]; simpa using hq)
  · rfl
theorem prunL_re (m : Mach) (f : Nat → Nat) : ∀ (l : List (Nat × Nat)) (s : PS), prunL m (l.map fun x => (f x.1, x.2)) (s.re f) = (prunL m l s).re f
  | [], s => rfl
  | x :: l, s => by
    rw [List.map_cons, prunL, prunL, pstep_re, prunL_re m f l]
theorem pstep_idle (m : Mach) (i w : Nat) (s : PS) (hm : m.threads[w]? = some []) (hs : s.ths[w]? = some ⟨0, none⟩) : pstep m i w s = s := by
  unfold pstep
  rw [hs, hm]
  rfl
theorem pstep_keep (m : Mach) (i n w : Nat) (s : PS) (hnw : n ≠ w) : (pstep m i n s).ths[w]? = s.ths[w]? := by
  unfold pstep pact
  split
  · split
    · rfl
    · split <;> simp [List.getElem?_set_ne hnw]
  · rfl
theorem prunL_idle (m : Mach) (w : Nat) (hm : m.threads[w]? = some []) : ∀ (l : List (Nat × Nat)) (s : PS), s.ths[w]? = some ⟨0, none⟩ → prunL m l s = prunL m (l.filter fun x => x.2 != w) s
  | [], s, _ => rfl
  | x :: l, s, hs => by
    by_cases h : x.2 = w
    · rw [List.filter_cons_of_neg (by simp [h]), prunL]
      rw [show pstep m x.1 x.2 s = s from by rw [h]; exact pstep_idle m x.1 w s hm hs]
      exact prunL_idle m w hm l s hs
    · rw [List.filter_cons_of_pos (by simp [h]), prunL, prunL]
      exact prunL_idle m w hm l _ (by rw [pstep_keep m x.1 x.2 w s h]; exact hs)
/-- the steps that others take, with their numbers -/
def busy (w : Nat) (l : List Nat) : List (Nat × Nat) := ((List.range' 0 l.length).zip l).filter fun x => x.2 != w
theorem zip_self (f : Nat → Nat) (ws : List Nat) (hf : ∀ k x, ws[k]? = some x → f k = x) : ∀ (i : Nat) (xs ns : List Nat), xs.length = ns.length → (∀ k, xs[k]? = ws[i + k]?) → ((List.range' i ns.length).zip ns).map (fun x => (f x.1, x.2)) = xs.zip ns
  | i, [], [], _, _ => rfl
  | i, [], _ :: _, h, _ => by simp at h
  | i, _ :: _, [], h, _ => by simp at h
  | i, x :: xs, n :: ns, h, h2 => by
    rw [List.length_cons, List.range'_succ, List.zip_cons_cons, List.zip_cons_cons, List.map_cons]
    have h0 := h2 0
    rw [show f i = x from hf i x (by rw [← Nat.add_zero i, ← h0]; rfl), zip_self f ws hf (i + 1) xs ns (by simpa using h) (fun k => by have := h2 (k + 1); rw [show i + 1 + k = i + (k + 1) by omega, ← this]; rfl)]
theorem play_idle (m : Mach) (w : Nat) (l : List Nat) (hw : m.threads[w]? = some []) (f : Nat → Nat) (hf : ∀ k x, ((busy w l).map (·.1))[k]? = some x → f k = x) :
    play m l = (play m ((busy w l).map (·.2))).re f := by
  have hwl : w < m.threads.length := (List.getElem?_eq_some_iff.1 hw).1
  unfold play
  rw [prunL_eq, prunL_idle m w hw _ _ (by unfold pinit; rw [List.getElem?_replicate, if_pos hwl]), prunL_eq]
  have hz := zip_self f _ hf 0 ((busy w l).map (·.1)) ((busy w l).map (·.2)) (by simp) (fun k => by rw [Nat.zero_add])
  rw [show pinit m = (pinit m).re f from rfl, ← prunL_re, hz]
  show prunL m (busy w l) _ = _
  congr 1
  generalize busy w l = b
  clear hz hf
  induction b with
  | nil => rfl
  | cons x b ih => rw [List.map_cons, List.map_cons, List.zip_cons_cons, ← ih]
theorem busy_lt (w : Nat) (l : List Nat) : ∀ x ∈ busy w l, x.1 < l.length ∧ x.2 ∈ l := by
  intro x hx
  unfold busy at hx
  have h1 := (List.mem_filter.1 hx).1
  obtain ⟨a, b⟩ := x
  obtain ⟨h2, h3⟩ := List.of_mem_zip h1
  exact ⟨by have := List.mem_range'_1.1 h2; simp at this; exact this, h3⟩
theorem busy_len (w : Nat) (l : List Nat) : (busy w l).length ≤ l.length := by
  unfold busy
  refine Nat.le_trans (List.length_filter_le _ _) ?_
  rw [List.length_zip]; simp
/-- one step more -/
theorem busy_snoc (w : Nat) (l : List Nat) (x : Nat) : busy w (l ++ [x]) = if x = w then busy w l else busy w l ++ [(l.length, x)] := by
  unfold busy
  rw [List.length_append, List.length_singleton, List.range'_1_concat, List.zip_append (by simp), List.filter_append, Nat.zero_add]
  by_cases h : x = w
  · rw [if_pos h]; simp [h]
  · rw [if_neg h]; simp [h]
end Go.Proofs.YtabmkjokeeakdaaDoor
