/-
  One thread alone, call after call: plain laws. An object of so many places, one call behind the other: what it tells. Plain. Steps of a thread that loads and stores words. Written by gen_steps.py. Package stack, step by step: plain. Written by gen_sstep.py. The stack, one call behind the other: plain. (Merged by merge.py.) (Merged by merge.py.)
-/
import Derived.Test.YtbcjgnigdddlkaaDoorPlayInd
import Derived.Test.YtbcjgnigdddlkaaDoorMachN
import Derived.Test.YtbcjgnigdddlkaaDoorQStep
import Derived.Test.YtbcjgnigdddlkaaDoorVmMath
namespace Go.Proofs.YtbcjgnigdddlkaaDoor
set_option linter.unusedVariables false

section
open Go.RowKit
/-- a call that is alone ends after n steps -/
inductive Ends (code : List Op5) : Th → List Int → Nat → Th → List Int → Prop
  | last {t t' : Th} {ws ws' : List Int} (h : vstep code t ws = (t', ws')) (ho : t'.over = true) : Ends code t ws 1 t' ws'
  | more {t t1 t' : Th} {ws ws1 ws' : List Int} {n : Nat} (h : vstep code t ws = (t1, ws1)) (ho : t1.over = false) (h2 : Ends code t1 ws1 n t' ws') : Ends code t ws (n + 1) t' ws'
theorem Ends.pos {code : List Op5} {t t' : Th} {ws ws' : List Int} {n : Nat} (h : Ends code t ws n t' ws') : 1 ≤ n := by cases h <;> omega
/-- some steps within a call -/
inductive Goes (code : List Op5) : Th → List Int → Nat → Th → List Int → Prop
  | none {t : Th} {ws : List Int} : Goes code t ws 0 t ws
  | more {t t1 t' : Th} {ws ws1 ws' : List Int} {n : Nat} (h : vstep code t ws = (t1, ws1)) (ho : t1.over = false) (h2 : Goes code t1 ws1 n t' ws') : Goes code t ws (n + 1) t' ws'
theorem Goes.ends {code : List Op5} {t t1 t' : Th} {ws ws1 ws' : List Int} {n k : Nat} (h : Goes code t ws n t1 ws1) (h2 : Ends code t1 ws1 k t' ws') : Ends code t ws (n + k) t' ws' := by
  induction h with
  | none => rw [Nat.zero_add]; exact h2
  | more h ho _ ih => rw [Nat.add_right_comm]; exact .more h ho (ih h2)
theorem Goes.trans {code : List Op5} {t t1 t' : Th} {ws ws1 ws' : List Int} {n k : Nat} (h : Goes code t ws n t1 ws1) (h2 : Goes code t1 ws1 k t' ws') : Goes code t ws (n + k) t' ws' := by
  induction h with
  | none => rw [Nat.zero_add]; exact h2
  | more h ho _ ih => rw [Nat.add_right_comm]; exact .more h ho (ih h2)
theorem Goes.one {code : List Op5} {t t1 : Th} {ws ws1 : List Int} (h : vstep code t ws = (t1, ws1)) (ho : t1.over = false) : Goes code t ws 1 t1 ws1 := .more h ho .none
/-- nobody is in a call; i steps were done -/
structure Calm (m : Mach) (i : Nat) (s : PS) (nx : Nat → Nat) (ws : List Int) (ds : List Dg) : Prop where
  ths : ∀ t, t < m.threads.length → s.ths[t]? = some ⟨nx t, none⟩
  len : s.ths.length = m.threads.length
  words : s.words = ws
  ds_ : doings s.evs = ds
  done : ∀ d ∈ ds, d.e.isNone = false
  err : NoErr s.evs
theorem Calm.start (m : Mach) : Calm m 0 (pinit m) (fun _ => 0) m.words [] where
  ths := fun t ht => by unfold pinit; rw [List.getElem?_replicate, if_pos ht]
  len := by unfold pinit; rw [List.length_replicate]
  words := rfl
  ds_ := rfl
  done := fun d h => by cases h
  err := fun e h => by cases h
/-- a call's steps -/
theorem ends_run {m : Mach} {τ k ci : Nat} {calls : List VCall} (hc : m.threads[τ]? = some calls) {t t' : Th} {ws ws' : List Int} {n : Nat} (h : Ends (m.codes.getD ci []) t ws n t' ws') :
    ∀ (i : Nat) (ths : List PT) (evs : List Ev), ths[τ]? = some ⟨k, some (ci, t)⟩ → prun m i (List.replicate n τ) ⟨ths, ws, evs⟩ = ⟨ths.set τ ⟨k, none⟩, ws', evs ++ [⟨i + n - 1, τ, k - 1, true, t'.err, t'.told⟩]⟩ := by
  induction h with
  | last h ho =>
    intro i ths evs hs
    rw [show List.replicate 1 τ = [τ] from rfl, prun, prun]
    unfold pstep
    simp only [hs, hc, pbeg, pact, h, ho, if_true, List.nil_append, Nat.add_sub_cancel]
  | @more t t1 t2 ws ws1 ws2 n h ho h2 ih =>
    intro i ths evs hs
    have hl := (List.getElem?_eq_some_iff.1 hs).1
    rw [List.replicate_succ, prun]
    have e : pstep m i τ ⟨ths, ws, evs⟩ = ⟨ths.set τ ⟨k, some (ci, t1)⟩, ws1, evs⟩ := by
      unfold pstep
      simp only [hs, hc, pbeg, pact, h, ho, Bool.false_eq_true, if_false, List.append_nil]
    rw [e, ih (i + 1) _ evs (by rw [List.getElem?_set_self hl]), List.set_set]
    have := h2.pos
    congr 4
    omega
/-- a call from its beginning to its end -/
theorem begin_run {m : Mach} {τ k : Nat} {calls : List VCall} {c : VCall} (hc : m.threads[τ]? = some calls) (hk : calls[k]? = some c) {t' : Th} {ws ws' : List Int} {n : Nat} (h : Ends (m.codes.getD c.code []) (vbegin (m.codes.getD c.code []).length c.args) ws n t' ws') (i : Nat) (ths : List PT) (evs : List Ev) (hs : ths[τ]? = some ⟨k, none⟩) :
    prun m i (List.replicate n τ) ⟨ths, ws, evs⟩ = ⟨ths.set τ ⟨k + 1, none⟩, ws', evs ++ [⟨i, τ, k, false, 0, []⟩] ++ [⟨i + n - 1, τ, k, true, t'.err, t'.told⟩]⟩ := by
  have hl := (List.getElem?_eq_some_iff.1 hs).1
  have h1 := h.pos
  obtain ⟨q, rfl⟩ : ∃ q, n = q + 1 := ⟨n - 1, by omega⟩
  have e : pstep m i τ ⟨ths, ws, evs⟩ = pstep m i τ ⟨ths.set τ ⟨k + 1, some (c.code, vbegin (m.codes.getD c.code []).length c.args)⟩, ws, evs ++ [⟨i, τ, k, false, 0, []⟩]⟩ := by
    unfold pstep
    simp only [hs, hc, List.getElem?_set_self hl, pbeg, hk, pact, List.set_set, List.nil_append, List.append_nil, List.append_assoc]
  have e2 := ends_run (k := k + 1) (ci := c.code) hc h i (ths.set τ ⟨k + 1, some (c.code, vbegin (m.codes.getD c.code []).length c.args)⟩) (evs ++ [⟨i, τ, k, false, 0, []⟩]) (by rw [List.getElem?_set_self hl])
  rw [List.replicate_succ, prun] at e2 ⊢
  rw [e, e2, List.set_set, Nat.add_sub_cancel]
theorem dstep_last_ {ds : List Dg} {d : Dg} {ev : Ev} (hf : ev.fin = true) (hd : ∀ x ∈ ds, x.e.isNone = false) (ho : dopen ev d = true) : dstep (ds ++ [d]) ev = ds ++ [{ d with e := some ev.step, told := ev.told }] := by
  unfold dstep
  rw [if_pos hf, List.map_append]
  congr 1
  · conv => rhs; rw [← List.map_id ds]
    refine List.map_congr_left fun x hx => ?_
    rw [if_neg]; · rfl
    unfold dopen
    rw [hd x hx]
    simp
  · simp [ho]
theorem Calm.call {m : Mach} {i : Nat} {s : PS} {nx : Nat → Nat} {ws : List Int} {ds : List Dg} (h : Calm m i s nx ws ds) {τ : Nat} {calls : List VCall} {c : VCall} (hc : m.threads[τ]? = some calls) (hk : calls[nx τ]? = some c) {t' : Th} {ws' : List Int} {n : Nat}
    (he : Ends (m.codes.getD c.code []) (vbegin (m.codes.getD c.code []).length c.args) ws n t' ws') (herr : t'.err = 0) :
    Calm m (i + n) (prun m i (List.replicate n τ) s) (upd nx τ (nx τ + 1)) ws' (ds ++ [⟨i, some (i + n - 1), τ, nx τ, t'.told⟩]) := by
  have hτ := (List.getElem?_eq_some_iff.1 hc).1
  obtain ⟨ths, wsx, evs⟩ := s
  obtain ⟨h1, h2, h3, h4, h5, h6⟩ := h
  simp only at h1 h2 h3 h4 h6
  subst h3
  rw [begin_run hc hk he i ths evs (h1 τ hτ)]
  refine ⟨fun t ht => ?_, by simp only [List.length_set]; exact h2, rfl, ?_, fun d hd => ?_, ?_⟩
  · simp only
    unfold upd
    by_cases e : t = τ
    · subst e; rw [if_pos rfl, List.getElem?_set_self (by omega)]
    · rw [if_neg e, List.getElem?_set_ne (fun e' => e e'.symm)]; exact h1 t ht
  · simp only
    rw [doings_snoc, doings_snoc, h4]
    exact dstep_last_ (d := ⟨i, none, τ, nx τ, []⟩) rfl h5 (by simp [dopen])
  · rcases List.mem_append.1 hd with hd | hd
    · exact h5 d hd
    · rw [List.mem_singleton.1 hd]; rfl
  · exact (h6.snoc rfl).snoc herr
theorem Calm.idle {m : Mach} {i : Nat} {s : PS} {nx : Nat → Nat} {ws : List Int} {ds : List Dg} (h : Calm m i s nx ws ds) {τ : Nat} {calls : List VCall} (hc : m.threads[τ]? = some calls) (hk : calls[nx τ]? = none) : ∀ (n j : Nat), prun m j (List.replicate n τ) s = s
  | 0, _ => rfl
  | n + 1, j => by
    have hτ := (List.getElem?_eq_some_iff.1 hc).1
    rw [List.replicate_succ, prun]
    have e : pstep m j τ s = s := by
      obtain ⟨ths, wsx, evs⟩ := s
      unfold pstep
      simp only [h.ths τ hτ, hc, pbeg, hk, pact]
    rw [e]
    exact h.idle hc hk n (j + 1)
/-- so many calls of one thread, each as is said; I: what holds of the words ahead of each call -/
structure Series (m : Mach) (τ : Nat) (calls : List VCall) (K B : Nat) (I : Nat → List Int → Prop) (W : Nat → List Int) : Prop where
  th : m.threads[τ]? = some calls
  call : ∀ j ws, j < K → I j ws → ∃ c n t' ws', calls[j]? = some c ∧ n ≤ B ∧ Ends (m.codes.getD c.code []) (vbegin (m.codes.getD c.code []).length c.args) ws n t' ws' ∧ I (j + 1) ws' ∧ t'.err = 0 ∧ t'.told = W j
/-- the calls of a series -/
structure SerDs (τ k : Nat) (W : Nat → List Int) (ds : List Dg) : Prop where
  len : ds.length = k
  at_ : ∀ (j : Nat) (d : Dg), ds[j]? = some d → d.t = τ ∧ d.c = j ∧ (∃ e, d.e = some e) ∧ d.told = W j
theorem Series.upto {m : Mach} {τ K B : Nat} {calls : List VCall} {I : Nat → List Int → Prop} {W : Nat → List Int} (h : Series m τ calls K B I W) (h0 : I 0 m.words) : ∀ k, k ≤ K → ∃ n s nx ws ds, n ≤ B * k ∧ prun m 0 (List.replicate n τ) (pinit m) = s ∧ Calm m n s nx ws ds ∧ I k ws ∧ nx τ = k ∧ SerDs τ k W ds
  | 0, _ => ⟨0, pinit m, fun _ => 0, m.words, [], Nat.zero_le _, rfl, Calm.start m, h0, rfl, rfl, fun j d hj => by simp at hj⟩
  | k + 1, hk => by
    obtain ⟨n, s, nx, ws, ds, h1, h2, h3, hI, h4, h5⟩ := h.upto h0 k (by omega)
    obtain ⟨c, q, t', ws', c1, c2, c3, cI, c4, c5⟩ := h.call k ws (by omega) hI
    have hC := h3.call h.th (by rw [h4]; exact c1) c3 c4
    have hn : upd nx τ (nx τ + 1) τ = k + 1 := by unfold upd; rw [if_pos rfl, h4]
    refine ⟨n + q, _, upd nx τ (nx τ + 1), ws', ds ++ [{ b := n, e := some (n + q - 1), t := τ, c := nx τ, told := t'.told }], by rw [Nat.mul_succ]; omega, rfl, ?_, cI, hn, ?_⟩
    · rw [show List.replicate (n + q) τ = List.replicate n τ ++ List.replicate q τ by rw [List.replicate_append_replicate], prun_append, h2, List.length_replicate, Nat.zero_add]
      exact hC
    · refine ⟨by rw [List.length_append, h5.len]; rfl, fun j d hj => ?_⟩
      rcases get_snoc hj with hj | ⟨e1, e2⟩
      · exact h5.at_ j d hj
      · rw [h5.len] at e1
        subst e1 e2
        exact ⟨rfl, h4, ⟨_, rfl⟩, c5⟩
theorem Series.play {m : Mach} {τ K B : Nat} {calls : List VCall} {I : Nat → List Int → Prop} {W : Nat → List Int} (h : Series m τ calls K B I W) (h0 : I 0 m.words) (hK : calls.length = K) {L : Nat} (hL : B * K ≤ L) :
    SerDs τ K W (doings (play m (List.replicate L τ)).evs) ∧ NoErr (play m (List.replicate L τ)).evs ∧ I K (play m (List.replicate L τ)).words := by
  obtain ⟨n, s, nx, ws, ds, h1, h2, h3, hI, h4, h5⟩ := h.upto h0 K (Nat.le_refl _)
  have e : Go.Proofs.YtbcjgnigdddlkaaDoor.play m (List.replicate L τ) = s := by
    unfold Go.Proofs.YtbcjgnigdddlkaaDoor.play
    rw [show List.replicate L τ = List.replicate n τ ++ List.replicate (L - n) τ by rw [List.replicate_append_replicate]; congr 1; omega, prun_append, h2]
    exact h3.idle h.th (by rw [h4]; exact List.getElem?_eq_none (by omega)) _ _
  rw [e, h3.ds_, h3.words]
  exact ⟨h5, h3.err, hI⟩
end

section
open Go.RowKit
/-- what a call tells, and what there is then; q: a queue, else a stack -/
def xres (q : Bool) (N : Nat) (has : List Int) (put : Bool) (v : Int) : Int × List Int :=
  if put then (if has.length = N then (0, has) else (1, has ++ [v])) else otell q has false 0
def xtake (kinds : List Bool) (i : Nat) : Bool := kinds.getD i false
/-- what there is ahead of the call k -/
def xhas (q : Bool) (N : Nat) (f : Nat → Int) (kinds : List Bool) : Nat → List Int
  | 0 => []
  | k + 1 => (xres q N (xhas q N f kinds k) (!xtake kinds k) (f k)).2
/-- what the call k tells -/
def xtold (q : Bool) (N : Nat) (f : Nat → Int) (kinds : List Bool) (k : Nat) : Int := (xres q N (xhas q N f kinds k) (!xtake kinds k) (f k)).1
def xwant (q : Bool) (N : Nat) (f : Nat → Int) (kinds : List Bool) (k : Nat) : List Int := (List.range k).map (xtold q N f kinds)
def xcall (f : Nat → Int) (kinds : List Bool) (i : Nat) : VCall := if xtake kinds i = true then ⟨1, []⟩ else ⟨0, [f i]⟩
def xcalls (f : Nat → Int) (kinds : List Bool) (k : Nat) : List VCall := (List.range k).map (xcall f kinds)
theorem xcalls_len (f : Nat → Int) (kinds : List Bool) (k : Nat) : (xcalls f kinds k).length = k := by unfold xcalls; simp
theorem xwant_len (q : Bool) (N : Nat) (f : Nat → Int) (kinds : List Bool) (k : Nat) : (xwant q N f kinds k).length = k := by unfold xwant; simp
theorem xcalls_next (f : Nat → Int) (kinds : List Bool) (k : Nat) : xcalls f kinds (k + 1) = xcalls f kinds k ++ [xcall f kinds k] := by unfold xcalls; rw [List.range_succ, List.map_append]; rfl
theorem xwant_next (q : Bool) (N : Nat) (f : Nat → Int) (kinds : List Bool) (k : Nat) : xwant q N f kinds (k + 1) = xwant q N f kinds k ++ [xtold q N f kinds k] := by unfold xwant; rw [List.range_succ, List.map_append]; rfl
theorem xcalls_at {f : Nat → Int} {kinds : List Bool} {k j : Nat} (h : j < k) : (xcalls f kinds k)[j]? = some (xcall f kinds j) := by unfold xcalls; rw [List.getElem?_map, List.getElem?_range h]; rfl
theorem xwant_at {q : Bool} {N : Nat} {f : Nat → Int} {kinds : List Bool} {k j : Nat} (h : j < k) : (xwant q N f kinds k)[j]? = some (xtold q N f kinds j) := by unfold xwant; rw [List.getElem?_map, List.getElem?_range h]; rfl
theorem xres_len {q : Bool} {N : Nat} {has : List Int} {put : Bool} {v : Int} (h : has.length ≤ N) : (xres q N has put v).2.length ≤ N := by
  unfold xres otell
  split
  · split
    · exact h
    · rw [List.length_append, List.length_singleton]; show has.length + 1 ≤ N; omega
  · rw [if_neg (by decide)]
    split
    · exact Nat.zero_le _
    · rw [List.length_cons] at h
      split
      · rename_i x l _
        have e : (x, l).2.length = l.length := rfl
        omega
      · rename_i x l _
        have e : ((x :: l).getLast?.getD 0, (x :: l).dropLast).2.length = l.length := by show (x :: l).dropLast.length = _; simp
        omega
theorem xhas_len (q : Bool) (N : Nat) (f : Nat → Int) (kinds : List Bool) : ∀ k, (xhas q N f kinds k).length ≤ N
  | 0 => Nat.zero_le _
  | k + 1 => xres_len (xhas_len q N f kinds k)
theorem xres_mem {q : Bool} {N : Nat} {has : List Int} {put : Bool} {v x : Int} (h : x ∈ (xres q N has put v).2) : x ∈ has ∨ (put = true ∧ x = v) := by
  unfold xres otell at h
  split at h
  · rename_i hp
    split at h
    · exact .inl h
    · rcases List.mem_append.1 h with h | h
      · exact .inl h
      · exact .inr ⟨hp, List.mem_singleton.1 h⟩
  · rw [if_neg (by decide)] at h
    split at h
    · cases h
    · split at h
      · exact .inl (List.mem_cons_of_mem _ h)
      · exact .inl ((List.dropLast_sublist _).subset h)
theorem xhas_mem {q : Bool} {N : Nat} {f : Nat → Int} {kinds : List Bool} : ∀ {k : Nat} {x : Int}, x ∈ xhas q N f kinds k → ∃ j, j < k ∧ x = f j
  | 0, x, h => by cases h
  | k + 1, x, h => by
    rcases xres_mem h with h | ⟨_, h⟩
    · obtain ⟨j, h1, h2⟩ := xhas_mem h; exact ⟨j, by omega, h2⟩
    · exact ⟨k, by omega, h⟩
/-- a machine with one thread -/
def xmach (ws : List Int) (k1 k2 : List Op5) (f : Nat → Int) (kinds : List Bool) (k : Nat) : Mach := ⟨ws, [k1, k2], [xcalls f kinds k]⟩
theorem x_series {q : Bool} {N B K : Nat} {ws : List Int} {k1 k2 : List Op5} {f : Nat → Int} {kinds : List Bool} {I : Nat → List Int → List Int → Prop}
    (hput : ∀ j l v ws, j < K → I j l ws → l.length ≤ N → (∃ i, i < K ∧ v = f i) → ∃ n t' ws', n ≤ B ∧ Ends k1 (vbegin k1.length [v]) ws n t' ws' ∧ I (j + 1) (xres q N l true v).2 ws' ∧ t'.err = 0 ∧ t'.told = [(xres q N l true v).1])
    (htake : ∀ j l ws, j < K → I j l ws → l.length ≤ N → ∃ n t' ws', n ≤ B ∧ Ends k2 (vbegin k2.length []) ws n t' ws' ∧ I (j + 1) (xres q N l false 0).2 ws' ∧ t'.err = 0 ∧ t'.told = [(xres q N l false 0).1]) :
    Series (xmach ws k1 k2 f kinds K) 0 (xcalls f kinds K) K B (fun j => I j (xhas q N f kinds j)) (fun j => [xtold q N f kinds j]) where
  th := rfl
  call := fun j us hj hI => by
    have hl := xhas_len q N f kinds j
    refine ⟨xcall f kinds j, ?_⟩
    cases hk : xtake kinds j with
    | true =>
      obtain ⟨n, t', ws', h1, h2, h5, h3, h4⟩ := htake j _ us hj hI hl
      have e : xcall f kinds j = ⟨1, []⟩ := by unfold xcall; rw [hk]; rfl
      refine ⟨n, t', ws', xcalls_at hj, h1, ?_, ?_, h3, ?_⟩
      · rw [e]; exact h2
      · show I (j + 1) (xres q N (xhas q N f kinds j) (!xtake kinds j) (f j)).2 ws'
        rw [hk]; exact h5
      · rw [h4]; unfold xtold; rw [hk]; rfl
    | false =>
      obtain ⟨n, t', ws', h1, h2, h5, h3, h4⟩ := hput j _ (f j) us hj hI hl ⟨j, hj, rfl⟩
      have e : xcall f kinds j = ⟨0, [f j]⟩ := by unfold xcall; rw [hk]; rfl
      refine ⟨n, t', ws', xcalls_at hj, h1, ?_, ?_, h3, ?_⟩
      · rw [e]; exact h2
      · show I (j + 1) (xres q N (xhas q N f kinds j) (!xtake kinds j) (f j)).2 ws'
        rw [hk]; exact h5
      · rw [h4]; unfold xtold; rw [hk]; rfl
end

section

section
open Go.RowKit
/-! ### words, one step each -/
theorem wsp_over (code : List Op5) (t : Th) (ws : List Int) (o : Op5) (h0 : t.over = false) (h1 : code[t.pc]? = some o) : vstep code t ws = ({ (vdo o { t with pc := t.pc + 1 } ws).1 with over := (vdo o { t with pc := t.pc + 1 } ws).1.over || decide ((vdo o { t with pc := t.pc + 1 } ws).1.pc = code.length) }, (vdo o { t with pc := t.pc + 1 } ws).2) := by
  unfold vstep
  rw [if_neg (by rw [h0]; decide), h1]
theorem vs_load {code : List Op5} {t t' : Th} {ws : List Int} {a b c d ad : Int} (h0 : t.over = false) (h1 : code[t.pc]? = some ⟨13, a, b, c, d⟩) (ha : wrap64 (vget t.regs b + c) = ad) (hl : 0 ≤ ad) (hu : ad < (ws.length : Int))
    (ht : t' = { t with regs := vset t.regs a (vget ws ad), pc := t.pc + 1, over := decide (t.pc + 1 = code.length) }) : vstep code t ws = (t', ws) := by
  rw [wsp_over code t ws _ h0 h1, ht]
  have e : vdo ⟨13, a, b, c, d⟩ { t with pc := t.pc + 1 } ws = (if wrap64 (vget t.regs b + c) < 0 ∨ (ws.length : Int) ≤ wrap64 (vget t.regs b + c) then ({ t with pc := t.pc + 1, err := 2, over := true }, ws) else ({ t with pc := t.pc + 1, regs := vset t.regs a (vget ws (wrap64 (vget t.regs b + c))) }, ws)) := rfl
  rw [e, ha, if_neg (by omega)]
  simp only [h0, Bool.false_or]
theorem vs_store {code : List Op5} {t t' : Th} {ws : List Int} {a b c d ad : Int} (h0 : t.over = false) (h1 : code[t.pc]? = some ⟨14, a, b, c, d⟩) (ha : wrap64 (vget t.regs b + c) = ad) (hl : 0 ≤ ad) (hu : ad < (ws.length : Int))
    (ht : t' = { t with pc := t.pc + 1, over := decide (t.pc + 1 = code.length) }) : vstep code t ws = (t', vset ws ad (vget t.regs a)) := by
  rw [wsp_over code t ws _ h0 h1, ht]
  have e : vdo ⟨14, a, b, c, d⟩ { t with pc := t.pc + 1 } ws = (if wrap64 (vget t.regs b + c) < 0 ∨ (ws.length : Int) ≤ wrap64 (vget t.regs b + c) then ({ t with pc := t.pc + 1, err := 2, over := true }, ws) else ({ t with pc := t.pc + 1 }, vset ws (wrap64 (vget t.regs b + c)) (vget t.regs a))) := rfl
  rw [e, ha, if_neg (by omega)]
  simp only [h0, Bool.false_or]
theorem wsp_cas (t : Th) (ws : List Int) (a b c d : Int) : vdo ⟨15, a, b, c, d⟩ t ws = (if wrap64 (vget t.regs b + c) < 0 ∨ (ws.length : Int) ≤ wrap64 (vget t.regs b + c) then ({ t with err := 2, over := true }, ws) else if vget ws (wrap64 (vget t.regs b + c)) = vget t.regs d then ({ t with regs := vset t.regs a 1 }, vset ws (wrap64 (vget t.regs b + c)) (vget t.regs a)) else ({ t with regs := vset t.regs a 0 }, ws)) := rfl
theorem vs_casy {code : List Op5} {t t' : Th} {ws : List Int} {a b c d ad : Int} (h0 : t.over = false) (h1 : code[t.pc]? = some ⟨15, a, b, c, d⟩) (ha : wrap64 (vget t.regs b + c) = ad) (hl : 0 ≤ ad) (hu : ad < (ws.length : Int)) (he : vget ws ad = vget t.regs d)
    (ht : t' = { t with regs := vset t.regs a 1, pc := t.pc + 1, over := decide (t.pc + 1 = code.length) }) : vstep code t ws = (t', vset ws ad (vget t.regs a)) := by
  rw [wsp_over code t ws _ h0 h1, ht, wsp_cas]
  simp only [ha]
  rw [if_neg (by omega), if_pos he]
  simp only [h0, Bool.false_or]
theorem vs_casn {code : List Op5} {t t' : Th} {ws : List Int} {a b c d ad : Int} (h0 : t.over = false) (h1 : code[t.pc]? = some ⟨15, a, b, c, d⟩) (ha : wrap64 (vget t.regs b + c) = ad) (hl : 0 ≤ ad) (hu : ad < (ws.length : Int)) (he : vget ws ad ≠ vget t.regs d)
    (ht : t' = { t with regs := vset t.regs a 0, pc := t.pc + 1, over := decide (t.pc + 1 = code.length) }) : vstep code t ws = (t', ws) := by
  rw [wsp_over code t ws _ h0 h1, ht, wsp_cas]
  simp only [ha]
  rw [if_neg (by omega), if_neg he]
  simp only [h0, Bool.false_or]
end

section
open Go.RowKit
def spushCode : List Op5 := [⟨1, 1, 1, 0, 0⟩, ⟨1, 2, 2, 0, 0⟩, ⟨1, 3, 64, 0, 0⟩, ⟨13, 4, 5, 1, 0⟩, ⟨7, 6, 4, 3, 0⟩, ⟨12, 6, 27, 0, 0⟩, ⟨5, 7, 6, 2, 0⟩, ⟨13, 8, 7, 1, 0⟩, ⟨13, 9, 7, 0, 0⟩, ⟨6, 10, 4, 3, 0⟩, ⟨3, 10, 10, 1, 0⟩, ⟨5, 10, 10, 3, 0⟩, ⟨3, 10, 10, 8, 0⟩, ⟨15, 10, 5, 1, 4⟩, ⟨12, 10, 3, 0, 0⟩, ⟨14, 0, 7, 0, 0⟩, ⟨13, 4, 5, 0, 0⟩, ⟨7, 8, 4, 3, 0⟩, ⟨14, 8, 7, 1, 0⟩, ⟨6, 10, 4, 3, 0⟩, ⟨3, 10, 10, 1, 0⟩, ⟨5, 10, 10, 3, 0⟩, ⟨3, 10, 10, 6, 0⟩, ⟨15, 10, 5, 0, 4⟩, ⟨12, 10, 16, 0, 0⟩, ⟨16, 1, 0, 0, 0⟩, ⟨17, 0, 0, 0, 0⟩, ⟨16, 5, 0, 0, 0⟩]
def spushT (p : Nat) (v now node at_ next val turn : Int) : Th := ⟨v :: 1 :: 2 :: 64 :: now :: 0 :: node :: at_ :: next :: val :: turn :: List.replicate 13 0, p, [], 0, false⟩
section
variable (v now node at_ next val turn : Int) (ws : List Int)
theorem spush_3 (ad : Int) (ha : wrap64 (0 + 1) = ad) (h0 : 0 ≤ ad) (h1 : ad < (ws.length : Int)) : vstep spushCode (spushT 3 v now node at_ next val turn) ws = ((spushT 4 v (vget ws ad) node at_ next val turn), ws) := by
  exact vs_load (a := 4) (b := 5) (c := 1) (d := 0) (t := (spushT 3 v now node at_ next val turn)) rfl rfl ha h0 h1 rfl
theorem spush_4 : vstep spushCode (spushT 4 v now node at_ next val turn) ws = ((spushT 5 v now (Int.tmod now 64) at_ next val turn), ws) := rfl
theorem spush_5z (h : node = 0) : vstep spushCode (spushT 5 v now node at_ next val turn) ws = ((spushT 27 v now node at_ next val turn), ws) := by subst h; rfl
theorem spush_5n (h : node ≠ 0) : vstep spushCode (spushT 5 v now node at_ next val turn) ws = ((spushT 6 v now node at_ next val turn), ws) := by
  unfold vstep vdo vother
  simp only [spushT, spushCode, List.getElem?_cons_succ, List.getElem?_cons_zero]
  simp [vget, h]
theorem spush_6 : vstep spushCode (spushT 6 v now node at_ next val turn) ws = ((spushT 7 v now node (wrap64 (node * 2)) next val turn), ws) := rfl
theorem spush_7 (ad : Int) (ha : wrap64 (at_ + 1) = ad) (h0 : 0 ≤ ad) (h1 : ad < (ws.length : Int)) : vstep spushCode (spushT 7 v now node at_ next val turn) ws = ((spushT 8 v now node at_ (vget ws ad) val turn), ws) := by
  exact vs_load (a := 8) (b := 7) (c := 1) (d := 0) (t := (spushT 7 v now node at_ next val turn)) rfl rfl ha h0 h1 rfl
theorem spush_8 (ad : Int) (ha : wrap64 (at_ + 0) = ad) (h0 : 0 ≤ ad) (h1 : ad < (ws.length : Int)) : vstep spushCode (spushT 8 v now node at_ next val turn) ws = ((spushT 9 v now node at_ next (vget ws ad) turn), ws) := by
  exact vs_load (a := 9) (b := 7) (c := 0) (d := 0) (t := (spushT 8 v now node at_ next val turn)) rfl rfl ha h0 h1 rfl
theorem spush_9 : vstep spushCode (spushT 9 v now node at_ next val turn) ws = ((spushT 10 v now node at_ next val (wrap64 (Int.tdiv now 64))), ws) := rfl
theorem spush_10 : vstep spushCode (spushT 10 v now node at_ next val turn) ws = ((spushT 11 v now node at_ next val (wrap64 (turn + 1))), ws) := rfl
theorem spush_11 : vstep spushCode (spushT 11 v now node at_ next val turn) ws = ((spushT 12 v now node at_ next val (wrap64 (turn * 64))), ws) := rfl
theorem spush_12 : vstep spushCode (spushT 12 v now node at_ next val turn) ws = ((spushT 13 v now node at_ next val (wrap64 (turn + next))), ws) := rfl
theorem spush_13y (ad : Int) (ha : wrap64 (0 + 1) = ad) (h0 : 0 ≤ ad) (h1 : ad < (ws.length : Int)) (he : vget ws ad = now) : vstep spushCode (spushT 13 v now node at_ next val turn) ws = ((spushT 14 v now node at_ next val (1)), vset ws ad (turn)) := by
  exact vs_casy (a := 10) (b := 5) (c := 1) (d := 4) (t := (spushT 13 v now node at_ next val turn)) rfl rfl ha h0 h1 he rfl
theorem spush_13n (ad : Int) (ha : wrap64 (0 + 1) = ad) (h0 : 0 ≤ ad) (h1 : ad < (ws.length : Int)) (he : vget ws ad ≠ now) : vstep spushCode (spushT 13 v now node at_ next val turn) ws = ((spushT 14 v now node at_ next val (0)), ws) := by
  exact vs_casn (a := 10) (b := 5) (c := 1) (d := 4) (t := (spushT 13 v now node at_ next val turn)) rfl rfl ha h0 h1 he rfl
theorem spush_14z (h : turn = 0) : vstep spushCode (spushT 14 v now node at_ next val turn) ws = ((spushT 3 v now node at_ next val turn), ws) := by subst h; rfl
theorem spush_14n (h : turn ≠ 0) : vstep spushCode (spushT 14 v now node at_ next val turn) ws = ((spushT 15 v now node at_ next val turn), ws) := by
  unfold vstep vdo vother
  simp only [spushT, spushCode, List.getElem?_cons_succ, List.getElem?_cons_zero]
  simp [vget, h]
theorem spush_15 (ad : Int) (ha : wrap64 (at_ + 0) = ad) (h0 : 0 ≤ ad) (h1 : ad < (ws.length : Int)) : vstep spushCode (spushT 15 v now node at_ next val turn) ws = ((spushT 16 v now node at_ next val turn), vset ws ad (v)) := by
  exact vs_store (a := 0) (b := 7) (c := 0) (d := 0) (t := (spushT 15 v now node at_ next val turn)) rfl rfl ha h0 h1 rfl
theorem spush_16 (ad : Int) (ha : wrap64 (0 + 0) = ad) (h0 : 0 ≤ ad) (h1 : ad < (ws.length : Int)) : vstep spushCode (spushT 16 v now node at_ next val turn) ws = ((spushT 17 v (vget ws ad) node at_ next val turn), ws) := by
  exact vs_load (a := 4) (b := 5) (c := 0) (d := 0) (t := (spushT 16 v now node at_ next val turn)) rfl rfl ha h0 h1 rfl
theorem spush_17 : vstep spushCode (spushT 17 v now node at_ next val turn) ws = ((spushT 18 v now node at_ (Int.tmod now 64) val turn), ws) := rfl
theorem spush_18 (ad : Int) (ha : wrap64 (at_ + 1) = ad) (h0 : 0 ≤ ad) (h1 : ad < (ws.length : Int)) : vstep spushCode (spushT 18 v now node at_ next val turn) ws = ((spushT 19 v now node at_ next val turn), vset ws ad (next)) := by
  exact vs_store (a := 8) (b := 7) (c := 1) (d := 0) (t := (spushT 18 v now node at_ next val turn)) rfl rfl ha h0 h1 rfl
theorem spush_19 : vstep spushCode (spushT 19 v now node at_ next val turn) ws = ((spushT 20 v now node at_ next val (wrap64 (Int.tdiv now 64))), ws) := rfl
theorem spush_20 : vstep spushCode (spushT 20 v now node at_ next val turn) ws = ((spushT 21 v now node at_ next val (wrap64 (turn + 1))), ws) := rfl
theorem spush_21 : vstep spushCode (spushT 21 v now node at_ next val turn) ws = ((spushT 22 v now node at_ next val (wrap64 (turn * 64))), ws) := rfl
theorem spush_22 : vstep spushCode (spushT 22 v now node at_ next val turn) ws = ((spushT 23 v now node at_ next val (wrap64 (turn + node))), ws) := rfl
theorem spush_23y (ad : Int) (ha : wrap64 (0 + 0) = ad) (h0 : 0 ≤ ad) (h1 : ad < (ws.length : Int)) (he : vget ws ad = now) : vstep spushCode (spushT 23 v now node at_ next val turn) ws = ((spushT 24 v now node at_ next val (1)), vset ws ad (turn)) := by
  exact vs_casy (a := 10) (b := 5) (c := 0) (d := 4) (t := (spushT 23 v now node at_ next val turn)) rfl rfl ha h0 h1 he rfl
theorem spush_23n (ad : Int) (ha : wrap64 (0 + 0) = ad) (h0 : 0 ≤ ad) (h1 : ad < (ws.length : Int)) (he : vget ws ad ≠ now) : vstep spushCode (spushT 23 v now node at_ next val turn) ws = ((spushT 24 v now node at_ next val (0)), ws) := by
  exact vs_casn (a := 10) (b := 5) (c := 0) (d := 4) (t := (spushT 23 v now node at_ next val turn)) rfl rfl ha h0 h1 he rfl
theorem spush_24z (h : turn = 0) : vstep spushCode (spushT 24 v now node at_ next val turn) ws = ((spushT 16 v now node at_ next val turn), ws) := by subst h; rfl
theorem spush_24n (h : turn ≠ 0) : vstep spushCode (spushT 24 v now node at_ next val turn) ws = ((spushT 25 v now node at_ next val turn), ws) := by
  unfold vstep vdo vother
  simp only [spushT, spushCode, List.getElem?_cons_succ, List.getElem?_cons_zero]
  simp [vget, h]
theorem spush_25 : vstep spushCode (spushT 25 v now node at_ next val turn) ws = ({ spushT 26 v now node at_ next val turn with told := [1] }, ws) := rfl
theorem spush_26 (l : List Int) : vstep spushCode { spushT 26 v now node at_ next val turn with told := l } ws = ({ spushT 27 v now node at_ next val turn with told := l, over := true }, ws) := rfl
theorem spush_27 : vstep spushCode (spushT 27 v now node at_ next val turn) ws = ({ spushT 28 v now node at_ next val turn with told := [0], over := true }, ws) := rfl
end
def spopCode : List Op5 := [⟨1, 0, 1, 0, 0⟩, ⟨1, 1, 2, 0, 0⟩, ⟨1, 2, 64, 0, 0⟩, ⟨13, 3, 4, 0, 0⟩, ⟨7, 5, 3, 2, 0⟩, ⟨12, 5, 27, 0, 0⟩, ⟨5, 6, 5, 1, 0⟩, ⟨13, 7, 6, 1, 0⟩, ⟨13, 8, 6, 0, 0⟩, ⟨6, 9, 3, 2, 0⟩, ⟨3, 9, 9, 0, 0⟩, ⟨5, 9, 9, 2, 0⟩, ⟨3, 9, 9, 7, 0⟩, ⟨15, 9, 4, 0, 3⟩, ⟨12, 9, 3, 0, 0⟩, ⟨2, 10, 8, 0, 0⟩, ⟨13, 3, 4, 1, 0⟩, ⟨7, 7, 3, 2, 0⟩, ⟨14, 7, 6, 1, 0⟩, ⟨6, 9, 3, 2, 0⟩, ⟨3, 9, 9, 0, 0⟩, ⟨5, 9, 9, 2, 0⟩, ⟨3, 9, 9, 5, 0⟩, ⟨15, 9, 4, 1, 3⟩, ⟨12, 9, 16, 0, 0⟩, ⟨16, 10, 0, 0, 0⟩, ⟨17, 0, 0, 0, 0⟩, ⟨1, 10, (-1), 0, 0⟩, ⟨16, 10, 0, 0, 0⟩]
def spopT (p : Nat) (now node at_ next val turn v : Int) : Th := ⟨1 :: 2 :: 64 :: now :: 0 :: node :: at_ :: next :: val :: turn :: v :: List.replicate 13 0, p, [], 0, false⟩
section
variable (now node at_ next val turn v : Int) (ws : List Int)
theorem spop_3 (ad : Int) (ha : wrap64 (0 + 0) = ad) (h0 : 0 ≤ ad) (h1 : ad < (ws.length : Int)) : vstep spopCode (spopT 3 now node at_ next val turn v) ws = ((spopT 4 (vget ws ad) node at_ next val turn v), ws) := by
  exact vs_load (a := 3) (b := 4) (c := 0) (d := 0) (t := (spopT 3 now node at_ next val turn v)) rfl rfl ha h0 h1 rfl
theorem spop_4 : vstep spopCode (spopT 4 now node at_ next val turn v) ws = ((spopT 5 now (Int.tmod now 64) at_ next val turn v), ws) := rfl
theorem spop_5z (h : node = 0) : vstep spopCode (spopT 5 now node at_ next val turn v) ws = ((spopT 27 now node at_ next val turn v), ws) := by subst h; rfl
theorem spop_5n (h : node ≠ 0) : vstep spopCode (spopT 5 now node at_ next val turn v) ws = ((spopT 6 now node at_ next val turn v), ws) := by
  unfold vstep vdo vother
  simp only [spopT, spopCode, List.getElem?_cons_succ, List.getElem?_cons_zero]
  simp [vget, h]
theorem spop_6 : vstep spopCode (spopT 6 now node at_ next val turn v) ws = ((spopT 7 now node (wrap64 (node * 2)) next val turn v), ws) := rfl
theorem spop_7 (ad : Int) (ha : wrap64 (at_ + 1) = ad) (h0 : 0 ≤ ad) (h1 : ad < (ws.length : Int)) : vstep spopCode (spopT 7 now node at_ next val turn v) ws = ((spopT 8 now node at_ (vget ws ad) val turn v), ws) := by
  exact vs_load (a := 7) (b := 6) (c := 1) (d := 0) (t := (spopT 7 now node at_ next val turn v)) rfl rfl ha h0 h1 rfl
theorem spop_8 (ad : Int) (ha : wrap64 (at_ + 0) = ad) (h0 : 0 ≤ ad) (h1 : ad < (ws.length : Int)) : vstep spopCode (spopT 8 now node at_ next val turn v) ws = ((spopT 9 now node at_ next (vget ws ad) turn v), ws) := by
  exact vs_load (a := 8) (b := 6) (c := 0) (d := 0) (t := (spopT 8 now node at_ next val turn v)) rfl rfl ha h0 h1 rfl
theorem spop_9 : vstep spopCode (spopT 9 now node at_ next val turn v) ws = ((spopT 10 now node at_ next val (wrap64 (Int.tdiv now 64)) v), ws) := rfl
theorem spop_10 : vstep spopCode (spopT 10 now node at_ next val turn v) ws = ((spopT 11 now node at_ next val (wrap64 (turn + 1)) v), ws) := rfl
theorem spop_11 : vstep spopCode (spopT 11 now node at_ next val turn v) ws = ((spopT 12 now node at_ next val (wrap64 (turn * 64)) v), ws) := rfl
theorem spop_12 : vstep spopCode (spopT 12 now node at_ next val turn v) ws = ((spopT 13 now node at_ next val (wrap64 (turn + next)) v), ws) := rfl
theorem spop_13y (ad : Int) (ha : wrap64 (0 + 0) = ad) (h0 : 0 ≤ ad) (h1 : ad < (ws.length : Int)) (he : vget ws ad = now) : vstep spopCode (spopT 13 now node at_ next val turn v) ws = ((spopT 14 now node at_ next val (1) v), vset ws ad (turn)) := by
  exact vs_casy (a := 9) (b := 4) (c := 0) (d := 3) (t := (spopT 13 now node at_ next val turn v)) rfl rfl ha h0 h1 he rfl
theorem spop_13n (ad : Int) (ha : wrap64 (0 + 0) = ad) (h0 : 0 ≤ ad) (h1 : ad < (ws.length : Int)) (he : vget ws ad ≠ now) : vstep spopCode (spopT 13 now node at_ next val turn v) ws = ((spopT 14 now node at_ next val (0) v), ws) := by
  exact vs_casn (a := 9) (b := 4) (c := 0) (d := 3) (t := (spopT 13 now node at_ next val turn v)) rfl rfl ha h0 h1 he rfl
theorem spop_14z (h : turn = 0) : vstep spopCode (spopT 14 now node at_ next val turn v) ws = ((spopT 3 now node at_ next val turn v), ws) := by subst h; rfl
theorem spop_14n (h : turn ≠ 0) : vstep spopCode (spopT 14 now node at_ next val turn v) ws = ((spopT 15 now node at_ next val turn v), ws) := by
  unfold vstep vdo vother
  simp only [spopT, spopCode, List.getElem?_cons_succ, List.getElem?_cons_zero]
  simp [vget, h]
theorem spop_15 : vstep spopCode (spopT 15 now node at_ next val turn v) ws = ((spopT 16 now node at_ next val turn (val)), ws) := rfl
theorem spop_16 (ad : Int) (ha : wrap64 (0 + 1) = ad) (h0 : 0 ≤ ad) (h1 : ad < (ws.length : Int)) : vstep spopCode (spopT 16 now node at_ next val turn v) ws = ((spopT 17 (vget ws ad) node at_ next val turn v), ws) := by
  exact vs_load (a := 3) (b := 4) (c := 1) (d := 0) (t := (spopT 16 now node at_ next val turn v)) rfl rfl ha h0 h1 rfl
theorem spop_17 : vstep spopCode (spopT 17 now node at_ next val turn v) ws = ((spopT 18 now node at_ (Int.tmod now 64) val turn v), ws) := rfl
theorem spop_18 (ad : Int) (ha : wrap64 (at_ + 1) = ad) (h0 : 0 ≤ ad) (h1 : ad < (ws.length : Int)) : vstep spopCode (spopT 18 now node at_ next val turn v) ws = ((spopT 19 now node at_ next val turn v), vset ws ad (next)) := by
  exact vs_store (a := 7) (b := 6) (c := 1) (d := 0) (t := (spopT 18 now node at_ next val turn v)) rfl rfl ha h0 h1 rfl
theorem spop_19 : vstep spopCode (spopT 19 now node at_ next val turn v) ws = ((spopT 20 now node at_ next val (wrap64 (Int.tdiv now 64)) v), ws) := rfl
theorem spop_20 : vstep spopCode (spopT 20 now node at_ next val turn v) ws = ((spopT 21 now node at_ next val (wrap64 (turn + 1)) v), ws) := rfl
theorem spop_21 : vstep spopCode (spopT 21 now node at_ next val turn v) ws = ((spopT 22 now node at_ next val (wrap64 (turn * 64)) v), ws) := rfl
theorem spop_22 : vstep spopCode (spopT 22 now node at_ next val turn v) ws = ((spopT 23 now node at_ next val (wrap64 (turn + node)) v), ws) := rfl
theorem spop_23y (ad : Int) (ha : wrap64 (0 + 1) = ad) (h0 : 0 ≤ ad) (h1 : ad < (ws.length : Int)) (he : vget ws ad = now) : vstep spopCode (spopT 23 now node at_ next val turn v) ws = ((spopT 24 now node at_ next val (1) v), vset ws ad (turn)) := by
  exact vs_casy (a := 9) (b := 4) (c := 1) (d := 3) (t := (spopT 23 now node at_ next val turn v)) rfl rfl ha h0 h1 he rfl
theorem spop_23n (ad : Int) (ha : wrap64 (0 + 1) = ad) (h0 : 0 ≤ ad) (h1 : ad < (ws.length : Int)) (he : vget ws ad ≠ now) : vstep spopCode (spopT 23 now node at_ next val turn v) ws = ((spopT 24 now node at_ next val (0) v), ws) := by
  exact vs_casn (a := 9) (b := 4) (c := 1) (d := 3) (t := (spopT 23 now node at_ next val turn v)) rfl rfl ha h0 h1 he rfl
theorem spop_24z (h : turn = 0) : vstep spopCode (spopT 24 now node at_ next val turn v) ws = ((spopT 16 now node at_ next val turn v), ws) := by subst h; rfl
theorem spop_24n (h : turn ≠ 0) : vstep spopCode (spopT 24 now node at_ next val turn v) ws = ((spopT 25 now node at_ next val turn v), ws) := by
  unfold vstep vdo vother
  simp only [spopT, spopCode, List.getElem?_cons_succ, List.getElem?_cons_zero]
  simp [vget, h]
theorem spop_25 : vstep spopCode (spopT 25 now node at_ next val turn v) ws = ({ spopT 26 now node at_ next val turn v with told := [v] }, ws) := rfl
theorem spop_26 (l : List Int) : vstep spopCode { spopT 26 now node at_ next val turn v with told := l } ws = ({ spopT 27 now node at_ next val turn v with told := l, over := true }, ws) := rfl
theorem spop_27 : vstep spopCode (spopT 27 now node at_ next val turn v) ws = ((spopT 28 now node at_ next val turn (-1)), ws) := rfl
theorem spop_28 : vstep spopCode (spopT 28 now node at_ next val turn v) ws = ({ spopT 29 now node at_ next val turn v with told := [v], over := true }, ws) := rfl
end
end

section
open Go.RowKit
theorem vget_vset_ne (ws : List Int) {i j : Int} (x : Int) (h : i.toNat ≠ j.toNat) : vget (vset ws i x) j = vget ws j := by
  unfold vget; exact vset_far ws i x j.toNat h
theorem vget_vset_eq (ws : List Int) {i : Int} (x : Int) (h0 : 0 ≤ i) (h : i < (ws.length : Int)) : vget (vset ws i x) i = x := by
  unfold vget vset
  rw [List.getD_eq_getElem?_getD, List.getElem?_set_self (by omega)]; rfl
/-- the nodes of a list, from its first one on -/
def Chain (ws : List Int) : List Nat → Int → Prop
  | [], h => h = 0
  | x :: l, h => h = (x : Int) ∧ Chain ws l (vget ws (2 * (x : Int) + 1))
theorem Chain.set {ws : List Int} {i : Int} (u : Int) : ∀ {l : List Nat} {h : Int}, (∀ y ∈ l, i.toNat ≠ 2 * y + 1) → Chain ws l h → Chain (vset ws i u) l h
  | [], h, _, hc => hc
  | x :: l, h, hi, hc => by
    refine ⟨hc.1, ?_⟩
    rw [vget_vset_ne ws u (by have := hi x List.mem_cons_self; omega)]
    exact Chain.set u (fun y hy => hi y (List.mem_cons_of_mem _ hy)) hc.2
def headI (l : List Nat) : Int := match l with | [] => 0 | x :: _ => (x : Int)
theorem Chain.head {ws : List Int} : ∀ {l : List Nat} {h : Int}, Chain ws l h → h = headI l
  | [], _, hc => hc
  | _ :: _, _, hc => hc.1
def valsOf (ws : List Int) (l : List Nat) : List Int := l.map fun x : Nat => vget ws (2 * (x : Int))
theorem valsOf_set {ws : List Int} {i : Int} (u : Int) {l : List Nat} (hi : ∀ y ∈ l, i.toNat ≠ 2 * y) : valsOf (vset ws i u) l = valsOf ws l := by
  unfold valsOf
  refine List.map_congr_left fun x hx => ?_
  rw [vget_vset_ne ws u (by have := hi x hx; omega)]
/-- the words of a stack where nobody is in a call: a, b: how often the lists changed -/
structure StI (N : Nat) (T F : List Nat) (a b : Nat) (ws : List Int) : Prop where
  len : ws.length = 2 * N + 2
  nd : (T ++ F).Nodup
  mem : ∀ x ∈ T ++ F, 1 ≤ x ∧ x ≤ N
  size : T.length + F.length = N
  w0 : vget ws 0 = 64 * (a : Int) + headI T
  w1 : vget ws 1 = 64 * (b : Int) + headI F
  cT : Chain ws T (headI T)
  cF : Chain ws F (headI F)
theorem headI_bd {N : Nat} {l : List Nat} (h : ∀ x ∈ l, 1 ≤ x ∧ x ≤ N) : 0 ≤ headI l ∧ headI l ≤ (N : Int) := by
  cases l with
  | nil => exact ⟨Int.le_refl _, by show (0 : Int) ≤ (N : Int); omega⟩
  | cons x l => have := h x List.mem_cons_self; unfold headI; simp only; omega
theorem w00 : wrap64 (0 + 0) = 0 := by unfold wrap64; omega
theorem w01 : wrap64 (0 + 1) = 1 := by unfold wrap64; omega
theorem wsm {x : Int} (h0 : -1000000000 ≤ x) (h1 : x ≤ 1000000000) : wrap64 x = x := by unfold wrap64; omega
theorem tmod64 {a x : Int} (ha : 0 ≤ a) (h0 : 0 ≤ x) (h1 : x < 64) : Int.tmod (64 * a + x) 64 = x := by rw [Int.tmod_eq_emod_of_nonneg (by omega)]; omega
theorem tdiv64 {a x : Int} (ha : 0 ≤ a) (ha2 : a ≤ 1000000) (h0 : 0 ≤ x) (h1 : x < 64) : wrap64 (Int.tdiv (64 * a + x) 64) = a := by
  rw [Int.tdiv_eq_ediv_of_nonneg (by omega), show (64 * a + x) / 64 = a by omega, wsm (by omega) (by omega)]
/-- a node moves from the head of one list to that of the other one -/
theorem StI.mv {N : Nat} {T F : List Nat} {a b x : Nat} {ws : List Int} (hN : N ≤ 8) (h : StI N T (x :: F) a b ws) (v : Int) :
    StI N (x :: T) F (a + 1) (b + 1) (vset (vset (vset (vset ws 1 (64 * ((b : Int) + 1) + headI F)) (2 * (x : Int)) v) (2 * (x : Int) + 1) (headI T)) 0 (64 * ((a : Int) + 1) + (x : Int))) ∧
    valsOf (vset (vset (vset (vset ws 1 (64 * ((b : Int) + 1) + headI F)) (2 * (x : Int)) v) (2 * (x : Int) + 1) (headI T)) 0 (64 * ((a : Int) + 1) + (x : Int))) (x :: T) = v :: valsOf ws T := by
  have hx := h.mem x (by simp)
  have hl := h.len
  have hnd := h.nd
  have hxT : ∀ y ∈ T, y ≠ x := fun y hy e => by
    subst e
    exact (List.nodup_append.1 hnd).2.2 y hy y List.mem_cons_self rfl
  have hxF : ∀ y ∈ F, y ≠ x := fun y hy e => by
    subst e
    exact (List.nodup_cons.1 (List.nodup_append.1 hnd).2.1).1 hy
  have hcF := h.cF.2
  have hhF := hcF.head
  have memT : ∀ y ∈ T, 1 ≤ y ∧ y ≤ N := fun y hy => h.mem y (by simp [hy])
  have memF : ∀ y ∈ F, 1 ≤ y ∧ y ≤ N := fun y hy => h.mem y (by simp [hy])
  rw [hhF] at hcF
  refine ⟨⟨?_, ?_, fun y hy => ?_, ?_, ?_, ?_, ⟨rfl, ?_⟩, ?_⟩, ?_⟩
  · simp only [vset_len, hl]
  · have hp : (x :: T ++ F).Perm (T ++ x :: F) := (List.perm_middle (a := x) (l₁ := T) (l₂ := F)).symm
    exact hp.nodup_iff.2 hnd
  · refine h.mem y ?_
    simp only [List.cons_append, List.mem_cons, List.mem_append] at hy ⊢
    rcases hy with h1 | h1 | h1
    · exact .inr (.inl h1)
    · exact .inl h1
    · exact .inr (.inr h1)
  · have := h.size; simp only [List.length_cons] at this ⊢; omega
  · rw [vget_vset_eq _ _ (by omega) (by simp only [vset_len, hl]; omega)]
    show _ = 64 * (((a + 1 : Nat) : Int)) + (x : Int)
    omega
  · rw [vget_vset_ne _ _ (by decide), vget_vset_ne _ _ (by omega), vget_vset_ne _ _ (by omega), vget_vset_eq _ _ (by omega) (by rw [hl]; omega)]
    omega
  · rw [vget_vset_ne _ _ (by omega), vget_vset_eq _ _ (by omega) (by simp only [vset_len, hl]; omega)]
    refine Chain.set _ (fun y hy => by have := memT y hy; omega) (Chain.set _ (fun y hy => by have := hxT y hy; omega) (Chain.set _ (fun y hy => by omega) (Chain.set _ (fun y hy => by have := memT y hy; omega) h.cT)))
  · refine Chain.set _ (fun y hy => by have := memF y hy; omega) (Chain.set _ (fun y hy => by have := hxF y hy; omega) (Chain.set _ (fun y hy => by omega) (Chain.set _ (fun y hy => by have := memF y hy; omega) hcF)))
  · show vget _ (2 * (x : Int)) :: valsOf _ T = _
    rw [valsOf_set _ (fun y hy => by have := memT y hy; omega), valsOf_set _ (fun y hy => by omega), valsOf_set _ (fun y hy => by have := hxT y hy; omega), valsOf_set _ (fun y hy => by omega)]
    rw [vget_vset_ne _ _ (by omega), vget_vset_ne _ _ (by omega), vget_vset_eq _ _ (by omega) (by simp only [vset_len, hl]; omega)]
/-- the same, the other way: Pop -/
theorem StI.mv2 {N : Nat} {T F : List Nat} {a b x : Nat} {ws : List Int} (hN : N ≤ 8) (h : StI N (x :: T) F a b ws) :
    StI N T (x :: F) (a + 1) (b + 1) (vset (vset (vset ws 0 (64 * ((a : Int) + 1) + headI T)) (2 * (x : Int) + 1) (headI F)) 1 (64 * ((b : Int) + 1) + (x : Int))) ∧
    valsOf (vset (vset (vset ws 0 (64 * ((a : Int) + 1) + headI T)) (2 * (x : Int) + 1) (headI F)) 1 (64 * ((b : Int) + 1) + (x : Int))) T = valsOf ws T := by
  have hx := h.mem x (by simp)
  have hl := h.len
  have hnd := h.nd
  have hxT : ∀ y ∈ T, y ≠ x := fun y hy e => by
    subst e
    exact (List.nodup_cons.1 (List.nodup_append.1 hnd).1).1 hy
  have hxF : ∀ y ∈ F, y ≠ x := fun y hy e => by
    subst e
    exact (List.nodup_append.1 hnd).2.2 y List.mem_cons_self y hy rfl
  have hcT := h.cT.2
  have hhT := hcT.head
  have memT : ∀ y ∈ T, 1 ≤ y ∧ y ≤ N := fun y hy => h.mem y (by simp [hy])
  have memF : ∀ y ∈ F, 1 ≤ y ∧ y ≤ N := fun y hy => h.mem y (by simp [hy])
  rw [hhT] at hcT
  refine ⟨⟨?_, ?_, fun y hy => ?_, ?_, ?_, ?_, ?_, ⟨rfl, ?_⟩⟩, ?_⟩
  · simp only [vset_len, hl]
  · have hp : (T ++ x :: F).Perm (x :: T ++ F) := List.perm_middle (a := x) (l₁ := T) (l₂ := F)
    exact hp.nodup_iff.2 hnd
  · refine h.mem y ?_
    simp only [List.cons_append, List.mem_cons, List.mem_append] at hy ⊢
    rcases hy with h1 | h1 | h1
    · exact .inr (.inl h1)
    · exact .inl h1
    · exact .inr (.inr h1)
  · have := h.size; simp only [List.length_cons] at this ⊢; omega
  · rw [vget_vset_ne _ _ (by decide), vget_vset_ne _ _ (by omega), vget_vset_eq _ _ (by omega) (by rw [hl]; omega)]
    omega
  · rw [vget_vset_eq _ _ (by omega) (by simp only [vset_len, hl]; omega)]
    show _ = 64 * (((b + 1 : Nat) : Int)) + (x : Int)
    omega
  · refine Chain.set _ (fun y hy => by have := memT y hy; omega) (Chain.set _ (fun y hy => by have := hxT y hy; omega) (Chain.set _ (fun y hy => by have := memT y hy; omega) hcT))
  · rw [vget_vset_ne _ _ (by omega), vget_vset_eq _ _ (by omega) (by simp only [vset_len, hl]; omega)]
    refine Chain.set _ (fun y hy => by have := memF y hy; omega) (Chain.set _ (fun y hy => by have := hxF y hy; omega) (Chain.set _ (fun y hy => by have := memF y hy; omega) h.cF))
  · rw [valsOf_set _ (fun y hy => by have := memT y hy; omega), valsOf_set _ (fun y hy => by omega), valsOf_set _ (fun y hy => by have := memT y hy; omega)]
/-- what there is, the last one last, and the words -/
def StS (N : Nat) (j : Nat) (has ws : List Int) : Prop := ∃ T F a b, StI N T F a b ws ∧ a ≤ j ∧ b ≤ j ∧ has = (valsOf ws T).reverse
theorem spush_ends {N j : Nat} (hN : 1 ≤ N ∧ N ≤ 8) (hj : j ≤ 1000) {has ws : List Int} {v : Int} (hS : StS N j has ws) :
    ∃ n t' ws', n ≤ 60 ∧ Ends spushCode (vbegin spushCode.length [v]) ws n t' ws' ∧ StS N (j + 1) (xres false N has true v).2 ws' ∧ t'.err = 0 ∧ t'.told = [(xres false N has true v).1] := by
  obtain ⟨T, F, a, b, h, ha, hb, rfl⟩ := hS
  have hl := h.len
  have memT : ∀ y ∈ T, 1 ≤ y ∧ y ≤ N := fun y hy => h.mem y (by simp [hy])
  have memF : ∀ y ∈ F, 1 ≤ y ∧ y ≤ N := fun y hy => h.mem y (by simp [hy])
  have bT := headI_bd memT
  have bF := headI_bd memF
  have hlen : (valsOf ws T).reverse.length = T.length := by unfold valsOf; simp
  have h0 : Goes spushCode (vbegin spushCode.length [v]) ws 3 (spushT 3 v 0 0 0 0 0 0) ws :=
    .more (t1 := ⟨v :: 1 :: List.replicate 22 0, 1, [], 0, false⟩) rfl rfl (.more (t1 := ⟨v :: 1 :: 2 :: List.replicate 21 0, 2, [], 0, false⟩) rfl rfl (.more (t1 := spushT 3 v 0 0 0 0 0 0) rfl rfl .none))
  have e3 : vstep spushCode (spushT 3 v 0 0 0 0 0 0) ws = (spushT 4 v (64 * (b : Int) + headI F) 0 0 0 0 0, ws) := by rw [spush_3 _ _ _ _ _ _ _ ws 1 w01 (by decide) (by omega), h.w1]
  have e4 : vstep spushCode (spushT 4 v (64 * (b : Int) + headI F) 0 0 0 0 0) ws = (spushT 5 v (64 * (b : Int) + headI F) (headI F) 0 0 0 0, ws) := by rw [spush_4, tmod64 (by omega) (by omega) (by omega)]
  have g1 := h0.trans (.more e3 rfl (.more e4 rfl .none))
  unfold xres
  rw [if_pos rfl, hlen]
  cases F with
  | nil =>
    have hT : T.length = N := by have := h.size; simpa using this
    rw [if_pos hT]
    refine ⟨_, _, ws, by omega, g1.ends (.more (spush_5z _ _ _ _ _ _ _ ws rfl) rfl (.last (spush_27 ..) rfl)), ⟨T, [], a, b, h, by omega, by omega, rfl⟩, rfl, rfl⟩
  | cons x F =>
    have hx := memF x List.mem_cons_self
    have hT : ¬ T.length = N := by have := h.size; simp only [List.length_cons] at this; omega
    rw [if_neg hT]
    have hhF := h.cF.2.head
    have bF2 := headI_bd fun y hy => memF y (List.mem_cons_of_mem _ hy)
    obtain ⟨hm1, hm2⟩ := h.mv hN.2 v
    have e0 : headI (x :: F) = (x : Int) := rfl
    rw [e0] at g1
    have g2 := g1.trans (.one (spush_5n v (64 * (b : Int) + (x : Int)) (x : Int) 0 0 0 0 ws (by omega)) rfl)
    have w6 : wrap64 ((x : Int) * 2) = 2 * (x : Int) := by rw [wsm (by omega) (by omega)]; omega
    have e6 : vstep spushCode (spushT 6 v (64 * (b : Int) + (x : Int)) (x : Int) 0 0 0 0) ws = (spushT 7 v (64 * (b : Int) + (x : Int)) (x : Int) (2 * (x : Int)) 0 0 0, ws) := by rw [spush_6, w6]
    have e7 : vstep spushCode (spushT 7 v (64 * (b : Int) + (x : Int)) (x : Int) (2 * (x : Int)) 0 0 0) ws = (spushT 8 v (64 * (b : Int) + (x : Int)) (x : Int) (2 * (x : Int)) (headI F) 0 0, ws) := by
      rw [spush_7 _ _ _ _ _ _ _ ws (2 * (x : Int) + 1) (wsm (by omega) (by omega)) (by omega) (by omega), hhF]
    have e8 : vstep spushCode (spushT 8 v (64 * (b : Int) + (x : Int)) (x : Int) (2 * (x : Int)) (headI F) 0 0) ws = (spushT 9 v (64 * (b : Int) + (x : Int)) (x : Int) (2 * (x : Int)) (headI F) (vget ws (2 * (x : Int))) 0, ws) := by
      rw [spush_8 _ _ _ _ _ _ _ ws (2 * (x : Int)) (by rw [wsm (by omega) (by omega)]; omega) (by omega) (by omega)]
    have g3 := g2.trans (.more e6 rfl (.more e7 rfl (.more e8 rfl .none)))
    generalize vget ws (2 * (x : Int)) = val at *
    have e9 : vstep spushCode (spushT 9 v (64 * (b : Int) + (x : Int)) (x : Int) (2 * (x : Int)) (headI F) val 0) ws = (spushT 10 v (64 * (b : Int) + (x : Int)) (x : Int) (2 * (x : Int)) (headI F) val (b : Int), ws) := by
      rw [spush_9, tdiv64 (by omega) (by omega) (by omega) (by omega)]
    have e10 : vstep spushCode (spushT 10 v (64 * (b : Int) + (x : Int)) (x : Int) (2 * (x : Int)) (headI F) val (b : Int)) ws = (spushT 11 v (64 * (b : Int) + (x : Int)) (x : Int) (2 * (x : Int)) (headI F) val ((b : Int) + 1), ws) := by
      rw [spush_10, wsm (by omega) (by omega)]
    have e11 : vstep spushCode (spushT 11 v (64 * (b : Int) + (x : Int)) (x : Int) (2 * (x : Int)) (headI F) val ((b : Int) + 1)) ws = (spushT 12 v (64 * (b : Int) + (x : Int)) (x : Int) (2 * (x : Int)) (headI F) val (((b : Int) + 1) * 64), ws) := by
      rw [spush_11, wsm (by omega) (by omega)]
    have e12 : vstep spushCode (spushT 12 v (64 * (b : Int) + (x : Int)) (x : Int) (2 * (x : Int)) (headI F) val (((b : Int) + 1) * 64)) ws = (spushT 13 v (64 * (b : Int) + (x : Int)) (x : Int) (2 * (x : Int)) (headI F) val (64 * ((b : Int) + 1) + headI F), ws) := by
      rw [spush_12, wsm (by omega) (by omega)]
      congr 2; omega
    have e13 : vstep spushCode (spushT 13 v (64 * (b : Int) + (x : Int)) (x : Int) (2 * (x : Int)) (headI F) val (64 * ((b : Int) + 1) + headI F)) ws = (spushT 14 v (64 * (b : Int) + (x : Int)) (x : Int) (2 * (x : Int)) (headI F) val 1, vset ws 1 (64 * ((b : Int) + 1) + headI F)) := by
      rw [spush_13y _ _ _ _ _ _ _ ws 1 w01 (by decide) (by omega) (by rw [h.w1, e0])]
    have g4 := g3.trans (.more e9 rfl (.more e10 rfl (.more e11 rfl (.more e12 rfl (.more e13 rfl (.more (spush_14n _ _ _ _ _ _ _ _ (by decide)) rfl .none))))))
    obtain ⟨ws1, hw1⟩ : ∃ u, u = vset ws 1 (64 * ((b : Int) + 1) + headI F) := ⟨_, rfl⟩
    rw [← hw1] at g4 hm1 hm2
    have l1 : ws1.length = 2 * N + 2 := by rw [hw1, vset_len, hl]
    have z1 : vget ws1 0 = 64 * (a : Int) + headI T := by rw [hw1, vget_vset_ne _ _ (by decide), h.w0]
    have e15 : vstep spushCode (spushT 15 v (64 * (b : Int) + (x : Int)) (x : Int) (2 * (x : Int)) (headI F) val 1) ws1 = (spushT 16 v (64 * (b : Int) + (x : Int)) (x : Int) (2 * (x : Int)) (headI F) val 1, vset ws1 (2 * (x : Int)) v) := by
      rw [spush_15 _ _ _ _ _ _ _ ws1 (2 * (x : Int)) (by rw [wsm (by omega) (by omega)]; omega) (by omega) (by omega)]
    obtain ⟨ws2, hw2⟩ : ∃ u, u = vset ws1 (2 * (x : Int)) v := ⟨_, rfl⟩
    rw [← hw2] at e15 hm1 hm2
    have l2 : ws2.length = 2 * N + 2 := by rw [hw2, vset_len, l1]
    have z2 : vget ws2 0 = 64 * (a : Int) + headI T := by rw [hw2, vget_vset_ne _ _ (by omega), z1]
    have e16 : vstep spushCode (spushT 16 v (64 * (b : Int) + (x : Int)) (x : Int) (2 * (x : Int)) (headI F) val 1) ws2 = (spushT 17 v (64 * (a : Int) + headI T) (x : Int) (2 * (x : Int)) (headI F) val 1, ws2) := by
      rw [spush_16 _ _ _ _ _ _ _ ws2 0 w00 (by decide) (by omega), z2]
    have e17 : vstep spushCode (spushT 17 v (64 * (a : Int) + headI T) (x : Int) (2 * (x : Int)) (headI F) val 1) ws2 = (spushT 18 v (64 * (a : Int) + headI T) (x : Int) (2 * (x : Int)) (headI T) val 1, ws2) := by
      rw [spush_17, tmod64 (by omega) (by omega) (by omega)]
    have e18 : vstep spushCode (spushT 18 v (64 * (a : Int) + headI T) (x : Int) (2 * (x : Int)) (headI T) val 1) ws2 = (spushT 19 v (64 * (a : Int) + headI T) (x : Int) (2 * (x : Int)) (headI T) val 1, vset ws2 (2 * (x : Int) + 1) (headI T)) := by
      rw [spush_18 _ _ _ _ _ _ _ ws2 (2 * (x : Int) + 1) (wsm (by omega) (by omega)) (by omega) (by omega)]
    have g5 := g4.trans (.more e15 rfl (.more e16 rfl (.more e17 rfl (.more e18 rfl .none))))
    obtain ⟨ws3, hw3⟩ : ∃ u, u = vset ws2 (2 * (x : Int) + 1) (headI T) := ⟨_, rfl⟩
    rw [← hw3] at g5 hm1 hm2
    have l3 : ws3.length = 2 * N + 2 := by rw [hw3, vset_len, l2]
    have z3 : vget ws3 0 = 64 * (a : Int) + headI T := by rw [hw3, vget_vset_ne _ _ (by omega), z2]
    have e19 : vstep spushCode (spushT 19 v (64 * (a : Int) + headI T) (x : Int) (2 * (x : Int)) (headI T) val 1) ws3 = (spushT 20 v (64 * (a : Int) + headI T) (x : Int) (2 * (x : Int)) (headI T) val (a : Int), ws3) := by
      rw [spush_19, tdiv64 (by omega) (by omega) (by omega) (by omega)]
    have e20 : vstep spushCode (spushT 20 v (64 * (a : Int) + headI T) (x : Int) (2 * (x : Int)) (headI T) val (a : Int)) ws3 = (spushT 21 v (64 * (a : Int) + headI T) (x : Int) (2 * (x : Int)) (headI T) val ((a : Int) + 1), ws3) := by
      rw [spush_20, wsm (by omega) (by omega)]
    have e21 : vstep spushCode (spushT 21 v (64 * (a : Int) + headI T) (x : Int) (2 * (x : Int)) (headI T) val ((a : Int) + 1)) ws3 = (spushT 22 v (64 * (a : Int) + headI T) (x : Int) (2 * (x : Int)) (headI T) val (((a : Int) + 1) * 64), ws3) := by
      rw [spush_21, wsm (by omega) (by omega)]
    have e22 : vstep spushCode (spushT 22 v (64 * (a : Int) + headI T) (x : Int) (2 * (x : Int)) (headI T) val (((a : Int) + 1) * 64)) ws3 = (spushT 23 v (64 * (a : Int) + headI T) (x : Int) (2 * (x : Int)) (headI T) val (64 * ((a : Int) + 1) + (x : Int)), ws3) := by
      rw [spush_22, wsm (by omega) (by omega)]
      congr 2; omega
    have e23 : vstep spushCode (spushT 23 v (64 * (a : Int) + headI T) (x : Int) (2 * (x : Int)) (headI T) val (64 * ((a : Int) + 1) + (x : Int))) ws3 = (spushT 24 v (64 * (a : Int) + headI T) (x : Int) (2 * (x : Int)) (headI T) val 1, vset ws3 0 (64 * ((a : Int) + 1) + (x : Int))) := by
      rw [spush_23y _ _ _ _ _ _ _ ws3 0 w00 (by decide) (by omega) z3]
    refine ⟨_, _, _, ?_, g5.ends (.more e19 rfl (.more e20 rfl (.more e21 rfl (.more e22 rfl (.more e23 rfl (.more (spush_24n _ _ _ _ _ _ _ _ (by decide)) rfl (.more (spush_25 ..) rfl (.last (spush_26 ..) rfl)))))))), ⟨x :: T, F, a + 1, b + 1, hm1, by omega, by omega, by rw [hm2]; simp⟩, rfl, rfl⟩
    omega
theorem spop_ends {N j : Nat} (hN : 1 ≤ N ∧ N ≤ 8) (hj : j ≤ 1000) {has ws : List Int} (hS : StS N j has ws) :
    ∃ n t' ws', n ≤ 60 ∧ Ends spopCode (vbegin spopCode.length []) ws n t' ws' ∧ StS N (j + 1) (xres false N has false 0).2 ws' ∧ t'.err = 0 ∧ t'.told = [(xres false N has false 0).1] := by
  obtain ⟨T, F, a, b, h, ha, hb, rfl⟩ := hS
  have hl := h.len
  have memT : ∀ y ∈ T, 1 ≤ y ∧ y ≤ N := fun y hy => h.mem y (by simp [hy])
  have memF : ∀ y ∈ F, 1 ≤ y ∧ y ≤ N := fun y hy => h.mem y (by simp [hy])
  have bT := headI_bd memT
  have bF := headI_bd memF
  have h0 : Goes spopCode (vbegin spopCode.length []) ws 3 (spopT 3 0 0 0 0 0 0 0) ws :=
    .more (t1 := ⟨1 :: List.replicate 23 0, 1, [], 0, false⟩) rfl rfl (.more (t1 := ⟨1 :: 2 :: List.replicate 22 0, 2, [], 0, false⟩) rfl rfl (.more (t1 := spopT 3 0 0 0 0 0 0 0) rfl rfl .none))
  have e3 : vstep spopCode (spopT 3 0 0 0 0 0 0 0) ws = (spopT 4 (64 * (a : Int) + headI T) 0 0 0 0 0 0, ws) := by rw [spop_3 _ _ _ _ _ _ _ ws 0 w00 (by decide) (by omega), h.w0]
  have e4 : vstep spopCode (spopT 4 (64 * (a : Int) + headI T) 0 0 0 0 0 0) ws = (spopT 5 (64 * (a : Int) + headI T) (headI T) 0 0 0 0 0, ws) := by rw [spop_4, tmod64 (by omega) (by omega) (by omega)]
  have g1 := h0.trans (.more e3 rfl (.more e4 rfl .none))
  unfold xres
  rw [if_neg (by decide)]
  cases T with
  | nil =>
    refine ⟨_, _, ws, by omega, g1.ends (.more (spop_5z _ _ _ _ _ _ _ ws rfl) rfl (.more (spop_27 ..) rfl (.last (spop_28 ..) rfl))), ⟨[], F, a, b, h, by omega, by omega, rfl⟩, rfl, rfl⟩
  | cons x T =>
    have hx := memT x List.mem_cons_self
    have hhT := h.cT.2.head
    have bT2 := headI_bd fun y hy => memT y (List.mem_cons_of_mem _ hy)
    obtain ⟨hm1, hm2⟩ := h.mv2 hN.2
    have e0 : headI (x :: T) = (x : Int) := rfl
    have hot : otell false (valsOf ws (x :: T)).reverse false 0 = (vget ws (2 * (x : Int)), (valsOf ws T).reverse) := by
      have e : (valsOf ws (x :: T)).reverse = (valsOf ws T).reverse ++ [vget ws (2 * (x : Int))] := by unfold valsOf; simp
      rw [e]
      unfold otell
      rw [if_neg (by decide)]
      split
      · rename_i hn; exact absurd hn (by simp)
      · rename_i y l hl
        rw [if_neg (by decide), ← hl]
        simp
    rw [hot]
    rw [e0] at g1
    have g2 := g1.trans (.one (spop_5n (64 * (a : Int) + (x : Int)) (x : Int) 0 0 0 0 0 ws (by omega)) rfl)
    have w6 : wrap64 ((x : Int) * 2) = 2 * (x : Int) := by rw [wsm (by omega) (by omega)]; omega
    have e6 : vstep spopCode (spopT 6 (64 * (a : Int) + (x : Int)) (x : Int) 0 0 0 0 0) ws = (spopT 7 (64 * (a : Int) + (x : Int)) (x : Int) (2 * (x : Int)) 0 0 0 0, ws) := by rw [spop_6, w6]
    have e7 : vstep spopCode (spopT 7 (64 * (a : Int) + (x : Int)) (x : Int) (2 * (x : Int)) 0 0 0 0) ws = (spopT 8 (64 * (a : Int) + (x : Int)) (x : Int) (2 * (x : Int)) (headI T) 0 0 0, ws) := by
      rw [spop_7 _ _ _ _ _ _ _ ws (2 * (x : Int) + 1) (wsm (by omega) (by omega)) (by omega) (by omega), hhT]
    have e8 : vstep spopCode (spopT 8 (64 * (a : Int) + (x : Int)) (x : Int) (2 * (x : Int)) (headI T) 0 0 0) ws = (spopT 9 (64 * (a : Int) + (x : Int)) (x : Int) (2 * (x : Int)) (headI T) (vget ws (2 * (x : Int))) 0 0, ws) := by
      rw [spop_8 _ _ _ _ _ _ _ ws (2 * (x : Int)) (by rw [wsm (by omega) (by omega)]; omega) (by omega) (by omega)]
    have g3 := g2.trans (.more e6 rfl (.more e7 rfl (.more e8 rfl .none)))
    generalize vget ws (2 * (x : Int)) = val at *
    have e9 : vstep spopCode (spopT 9 (64 * (a : Int) + (x : Int)) (x : Int) (2 * (x : Int)) (headI T) val 0 0) ws = (spopT 10 (64 * (a : Int) + (x : Int)) (x : Int) (2 * (x : Int)) (headI T) val (a : Int) 0, ws) := by
      rw [spop_9, tdiv64 (by omega) (by omega) (by omega) (by omega)]
    have e10 : vstep spopCode (spopT 10 (64 * (a : Int) + (x : Int)) (x : Int) (2 * (x : Int)) (headI T) val (a : Int) 0) ws = (spopT 11 (64 * (a : Int) + (x : Int)) (x : Int) (2 * (x : Int)) (headI T) val ((a : Int) + 1) 0, ws) := by
      rw [spop_10, wsm (by omega) (by omega)]
    have e11 : vstep spopCode (spopT 11 (64 * (a : Int) + (x : Int)) (x : Int) (2 * (x : Int)) (headI T) val ((a : Int) + 1) 0) ws = (spopT 12 (64 * (a : Int) + (x : Int)) (x : Int) (2 * (x : Int)) (headI T) val (((a : Int) + 1) * 64) 0, ws) := by
      rw [spop_11, wsm (by omega) (by omega)]
    have e12 : vstep spopCode (spopT 12 (64 * (a : Int) + (x : Int)) (x : Int) (2 * (x : Int)) (headI T) val (((a : Int) + 1) * 64) 0) ws = (spopT 13 (64 * (a : Int) + (x : Int)) (x : Int) (2 * (x : Int)) (headI T) val (64 * ((a : Int) + 1) + headI T) 0, ws) := by
      rw [spop_12, wsm (by omega) (by omega)]
      congr 2; omega
    have e13 : vstep spopCode (spopT 13 (64 * (a : Int) + (x : Int)) (x : Int) (2 * (x : Int)) (headI T) val (64 * ((a : Int) + 1) + headI T) 0) ws = (spopT 14 (64 * (a : Int) + (x : Int)) (x : Int) (2 * (x : Int)) (headI T) val 1 0, vset ws 0 (64 * ((a : Int) + 1) + headI T)) := by
      rw [spop_13y _ _ _ _ _ _ _ ws 0 w00 (by decide) (by omega) (by rw [h.w0, e0])]
    have g4 := g3.trans (.more e9 rfl (.more e10 rfl (.more e11 rfl (.more e12 rfl (.more e13 rfl (.more (spop_14n _ _ _ _ _ _ _ _ (by decide)) rfl (.more (spop_15 ..) rfl .none)))))))
    obtain ⟨ws1, hw1⟩ : ∃ u, u = vset ws 0 (64 * ((a : Int) + 1) + headI T) := ⟨_, rfl⟩
    rw [← hw1] at g4 hm1 hm2
    have l1 : ws1.length = 2 * N + 2 := by rw [hw1, vset_len, hl]
    have z1 : vget ws1 1 = 64 * (b : Int) + headI F := by rw [hw1, vget_vset_ne _ _ (by decide), h.w1]
    have e16 : vstep spopCode (spopT 16 (64 * (a : Int) + (x : Int)) (x : Int) (2 * (x : Int)) (headI T) val 1 val) ws1 = (spopT 17 (64 * (b : Int) + headI F) (x : Int) (2 * (x : Int)) (headI T) val 1 val, ws1) := by
      rw [spop_16 _ _ _ _ _ _ _ ws1 1 w01 (by decide) (by omega), z1]
    have e17 : vstep spopCode (spopT 17 (64 * (b : Int) + headI F) (x : Int) (2 * (x : Int)) (headI T) val 1 val) ws1 = (spopT 18 (64 * (b : Int) + headI F) (x : Int) (2 * (x : Int)) (headI F) val 1 val, ws1) := by
      rw [spop_17, tmod64 (by omega) (by omega) (by omega)]
    have e18 : vstep spopCode (spopT 18 (64 * (b : Int) + headI F) (x : Int) (2 * (x : Int)) (headI F) val 1 val) ws1 = (spopT 19 (64 * (b : Int) + headI F) (x : Int) (2 * (x : Int)) (headI F) val 1 val, vset ws1 (2 * (x : Int) + 1) (headI F)) := by
      rw [spop_18 _ _ _ _ _ _ _ ws1 (2 * (x : Int) + 1) (wsm (by omega) (by omega)) (by omega) (by omega)]
    have g5 := g4.trans (.more e16 rfl (.more e17 rfl (.more e18 rfl .none)))
    obtain ⟨ws3, hw3⟩ : ∃ u, u = vset ws1 (2 * (x : Int) + 1) (headI F) := ⟨_, rfl⟩
    rw [← hw3] at g5 hm1 hm2
    have l3 : ws3.length = 2 * N + 2 := by rw [hw3, vset_len, l1]
    have z3 : vget ws3 1 = 64 * (b : Int) + headI F := by rw [hw3, vget_vset_ne _ _ (by omega), z1]
    have e19 : vstep spopCode (spopT 19 (64 * (b : Int) + headI F) (x : Int) (2 * (x : Int)) (headI F) val 1 val) ws3 = (spopT 20 (64 * (b : Int) + headI F) (x : Int) (2 * (x : Int)) (headI F) val (b : Int) val, ws3) := by
      rw [spop_19, tdiv64 (by omega) (by omega) (by omega) (by omega)]
    have e20 : vstep spopCode (spopT 20 (64 * (b : Int) + headI F) (x : Int) (2 * (x : Int)) (headI F) val (b : Int) val) ws3 = (spopT 21 (64 * (b : Int) + headI F) (x : Int) (2 * (x : Int)) (headI F) val ((b : Int) + 1) val, ws3) := by
      rw [spop_20, wsm (by omega) (by omega)]
    have e21 : vstep spopCode (spopT 21 (64 * (b : Int) + headI F) (x : Int) (2 * (x : Int)) (headI F) val ((b : Int) + 1) val) ws3 = (spopT 22 (64 * (b : Int) + headI F) (x : Int) (2 * (x : Int)) (headI F) val (((b : Int) + 1) * 64) val, ws3) := by
      rw [spop_21, wsm (by omega) (by omega)]
    have e22 : vstep spopCode (spopT 22 (64 * (b : Int) + headI F) (x : Int) (2 * (x : Int)) (headI F) val (((b : Int) + 1) * 64) val) ws3 = (spopT 23 (64 * (b : Int) + headI F) (x : Int) (2 * (x : Int)) (headI F) val (64 * ((b : Int) + 1) + (x : Int)) val, ws3) := by
      rw [spop_22, wsm (by omega) (by omega)]
      congr 2; omega
    have e23 : vstep spopCode (spopT 23 (64 * (b : Int) + headI F) (x : Int) (2 * (x : Int)) (headI F) val (64 * ((b : Int) + 1) + (x : Int)) val) ws3 = (spopT 24 (64 * (b : Int) + headI F) (x : Int) (2 * (x : Int)) (headI F) val 1 val, vset ws3 1 (64 * ((b : Int) + 1) + (x : Int))) := by
      rw [spop_23y _ _ _ _ _ _ _ ws3 1 w01 (by decide) (by omega) z3]
    refine ⟨_, _, _, ?_, g5.ends (.more e19 rfl (.more e20 rfl (.more e21 rfl (.more e22 rfl (.more e23 rfl (.more (spop_24n _ _ _ _ _ _ _ _ (by decide)) rfl (.more (spop_25 ..) rfl (.last (spop_26 ..) rfl)))))))), ⟨T, x :: F, a + 1, b + 1, hm1, by omega, by omega, by rw [hm2]⟩, rfl, rfl⟩
    omega
/-- the words at the beginning: all nodes are free -/
def swords (N : Nat) : List Int := 0 :: 1 :: (List.range N).flatMap fun i => [0, if i + 1 < N then ((i + 2 : Nat) : Int) else 0]
theorem swords_0 {N : Nat} (hN : 1 ≤ N ∧ N ≤ 8) : StS N 0 [] (swords N) := by
  rcases (show N = 1 ∨ N = 2 ∨ N = 3 ∨ N = 4 ∨ N = 5 ∨ N = 6 ∨ N = 7 ∨ N = 8 by omega) with rfl | rfl | rfl | rfl | rfl | rfl | rfl | rfl
  · exact ⟨[], [1], 0, 0, ⟨by decide, by decide, by decide, by decide, by decide, by decide, rfl, by repeat (first | rfl | refine ⟨rfl, ?_⟩)⟩, by decide, by decide, rfl⟩
  · exact ⟨[], [1, 2], 0, 0, ⟨by decide, by decide, by decide, by decide, by decide, by decide, rfl, by repeat (first | rfl | refine ⟨rfl, ?_⟩)⟩, by decide, by decide, rfl⟩
  · exact ⟨[], [1, 2, 3], 0, 0, ⟨by decide, by decide, by decide, by decide, by decide, by decide, rfl, by repeat (first | rfl | refine ⟨rfl, ?_⟩)⟩, by decide, by decide, rfl⟩
  · exact ⟨[], [1, 2, 3, 4], 0, 0, ⟨by decide, by decide, by decide, by decide, by decide, by decide, rfl, by repeat (first | rfl | refine ⟨rfl, ?_⟩)⟩, by decide, by decide, rfl⟩
  · exact ⟨[], [1, 2, 3, 4, 5], 0, 0, ⟨by decide, by decide, by decide, by decide, by decide, by decide, rfl, by repeat (first | rfl | refine ⟨rfl, ?_⟩)⟩, by decide, by decide, rfl⟩
  · exact ⟨[], [1, 2, 3, 4, 5, 6], 0, 0, ⟨by decide, by decide, by decide, by decide, by decide, by decide, rfl, by repeat (first | rfl | refine ⟨rfl, ?_⟩)⟩, by decide, by decide, rfl⟩
  · exact ⟨[], [1, 2, 3, 4, 5, 6, 7], 0, 0, ⟨by decide, by decide, by decide, by decide, by decide, by decide, rfl, by repeat (first | rfl | refine ⟨rfl, ?_⟩)⟩, by decide, by decide, rfl⟩
  · exact ⟨[], [1, 2, 3, 4, 5, 6, 7, 8], 0, 0, ⟨by decide, by decide, by decide, by decide, by decide, by decide, rfl, by repeat (first | rfl | refine ⟨rfl, ?_⟩)⟩, by decide, by decide, rfl⟩
abbrev stM (N : Nat) (f : Nat → Int) (kinds : List Bool) : Mach := xmach (swords N) spushCode spopCode f kinds 20
theorem stack_tells {N : Nat} (hN : 1 ≤ N ∧ N ≤ 8) (f : Nat → Int) (kinds : List Bool) :
    SerDs 0 20 (fun j => [xtold false N f kinds j]) (doings (play (stM N f kinds) (List.replicate 5000 0)).evs) ∧ NoErr (play (stM N f kinds) (List.replicate 5000 0)).evs := by
  have S := x_series (q := false) (N := N) (B := 60) (K := 20) (ws := swords N) (k1 := spushCode) (k2 := spopCode) (f := f) (kinds := kinds) (I := fun j l ws => StS N j l ws)
    (fun j l v ws hj h1 h2 h3 => spush_ends hN (by omega) h1) (fun j l ws hj h1 h2 => spop_ends hN (by omega) h1)
  obtain ⟨h1, h2, _⟩ := S.play (swords_0 hN) (xcalls_len f kinds 20) (L := 5000) (by decide)
  exact ⟨h1, h2⟩
end
end
end Go.Proofs.YtbcjgnigdddlkaaDoor
