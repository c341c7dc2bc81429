/-
  One thread alone, call after call: plain laws.
-/
import Derived.Test.YtabmkjokeeakdaaDoorPlayInd
import Derived.Test.YtabmkjokeeakdaaDoorMachN
namespace Go.Proofs.YtabmkjokeeakdaaDoor
open Go.RowKit
set_option linter.unusedVariables false

/-- a call that is alone ends after n steps -/
inductive Ends (code : List Op5) : Th → List Int → Nat → Th → List Int → Prop
  | last {t t' : Th} {ws ws' : List Int} (h : vstep code t ws = (t', ws')) (ho : t'.over = true) : Ends code t ws 1 t' ws'
  | more {t t1 t' : Th} {ws ws1 ws' : List Int} {n : Nat} (h : vstep code t ws = (t1, ws1)) (ho : t1.over = false) (h2 : Ends code t1 ws1 n t' ws') : Ends code t ws (n + 1) t' ws'
theorem Ends.pos {code : List Op5} {t t' : Th} {ws ws' : List Int} {n : Nat} (h : Ends code t ws n t' ws') : 1 ≤ n := by cases h <;> omega
/-- some steps within a call -/
inductive Goes (code : List Op5) : Th → List Int → Nat → Th → List Int → Prop
  | none {t : Th} {ws : List Int} : Goes code t ws 0 t ws
  | more {t t1 t' : Th} {ws ws1 ws' : List Int} {n : Nat} (h : vstep code t ws = (t1, ws1)) (ho : t1.over = false) (h2 : Goes code t1 ws1 n t' ws') : Goes code t ws (n + 1) t' ws'
theorem Goes.ends {code : List Op5} {t t1 t' : Th} {ws ws1 ws' : List Int} {n k : Nat} (h : Goes code t ws n t1 ws1) (h2 : Ends code t1 ws1 k t' ws') : Ends code t ws (n + k) t' ws' := by
  induction h with
  | none => rw [Nat.zero_add]; exact h2
  | more h ho _ ih => rw [Nat.add_right_comm]; exact .more h ho (ih h2)
theorem Goes.trans {code : List Op5} {t t1 t' : Th} {ws ws1 ws' : List Int} {n k : Nat} (h : Goes code t ws n t1 ws1) (h2 : Goes code t1 ws1 k t' ws') : Goes code t ws (n + k) t' ws' := by
  induction h with
  | none => rw [Nat.zero_add]; exact h2
  | more h ho _ ih => rw [Nat.add_right_comm]; exact .more h ho (ih h2)
theorem Goes.one {code : List Op5} {t t1 : Th} {ws ws1 : List Int} (h : vstep code t ws = (t1, ws1)) (ho : t1.over = false) : Goes code t ws 1 t1 ws1 := .more h ho .none
/-- nobody is in a call; i steps were done -/
structure Calm (m : Mach) (i : Nat) (s : PS) (nx : Nat → Nat) (ws : List Int) (ds : List Dg) : Prop where
  ths : ∀ t, t < m.threads.length → s.ths[t]? = some ⟨nx t, none⟩
  len : s.ths.length = m.threads.length
  words : s.words = ws
  ds_ : doings s.evs = ds
  done : ∀ d ∈ ds, d.e.isNone = false
  err : NoErr s.evs
theorem Calm.start (m : Mach) : Calm m 0 (pinit m) (fun _ => 0) m.words [] where
  ths := fun t ht => by unfold pinit; rw [List.getElem?_replicate, if_pos ht]
  len := by unfold pinit; rw [List.length_replicate]
  words := rfl
  ds_ := rfl
  done := fun d h => by cases h
  err := fun e h => by cases h
/-- a call's steps -/
theorem ends_run {m : Mach} {τ k ci : Nat} {calls : List VCall} (hc : m.threads[τ]? = some calls) {t t' : Th} {ws ws' : List Int} {n : Nat} (h : Ends (m.codes.getD ci []) t ws n t' ws') :
    ∀ (i : Nat) (ths : List PT) (evs : List Ev), ths[τ]? = some ⟨k, some (ci, t)⟩ → prun m i (List.replicate n τ) ⟨ths, ws, evs⟩ = ⟨ths.set τ ⟨k, none⟩, ws', evs ++ [⟨i + n - 1, τ, k - 1, true, t'.err, t'.told⟩]⟩ := by
  induction h with
  | last h ho =>
    intro i ths evs hs
    rw [show List.replicate 1 τ = [τ] from rfl, prun, prun]
    unfold pstep
    simp only [hs, hc, pbeg, pact, h, ho, if_true, List.nil_append, Nat.add_sub_cancel]
  | @more t t1 t2 ws ws1 ws2 n h ho h2 ih =>
    intro i ths evs hs
    have hl := (List.getElem?_eq_some_iff.1 hs).1
    rw [List.replicate_succ, prun]
    have e : pstep m i τ ⟨ths, ws, evs⟩ = ⟨ths.set τ ⟨k, some (ci, t1)⟩, ws1, evs⟩ := by
      unfold pstep
      simp only [hs, hc, pbeg, pact, h, ho, Bool.false_eq_true, if_false, List.append_nil]
    rw [e, ih (i + 1) _ evs (by rw [List.getElem?_set_self hl]), List.set_set]
    have := h2.pos
    congr 4
    omega
/-- a call from its beginning to its end -/
theorem begin_run {m : Mach} {τ k : Nat} {calls : List VCall} {c : VCall} (hc : m.threads[τ]? = some calls) (hk : calls[k]? = some c) {t' : Th} {ws ws' : List Int} {n : Nat} (h : Ends (m.codes.getD c.code []) (vbegin (m.codes.getD c.code []).length c.args) ws n t' ws') (i : Nat) (ths : List PT) (evs : List Ev) (hs : ths[τ]? = some ⟨k, none⟩) :
    prun m i (List.replicate n τ) ⟨ths, ws, evs⟩ = ⟨ths.set τ ⟨k + 1, none⟩, ws', evs ++ [⟨i, τ, k, false, 0, []⟩] ++ [⟨i + n - 1, τ, k, true, t'.err, t'.told⟩]⟩ := by
  have hl := (List.getElem?_eq_some_iff.1 hs).1
  have h1 := h.pos
  obtain ⟨q, rfl⟩ : ∃ q, n = q + 1 := ⟨n - 1, by omega⟩
  have e : pstep m i τ ⟨ths, ws, evs⟩ = pstep m i τ ⟨ths.set τ ⟨k + 1, some (c.code, vbegin (m.codes.getD c.code []).length c.args)⟩, ws, evs ++ [⟨i, τ, k, false, 0, []⟩]⟩ := by
    unfold pstep
    simp only [hs, hc, List.getElem?_set_self hl, pbeg, hk, pact, List.set_set, List.nil_append, List.append_nil, List.append_assoc]
  have e2 := ends_run (k := k + 1) (ci := c.code) hc h i (ths.set τ ⟨k + 1, some (c.code, vbegin (m.codes.getD c.code []).length c.args)⟩) (evs ++ [⟨i, τ, k, false, 0, []⟩]) (by rw [List.getElem?_set_self hl])
  rw [List.replicate_succ, prun] at e2 ⊢
  rw [e, e2, List.set_set, Nat.add_sub_cancel]
theorem dstep_last_ {ds : List Dg} {d : Dg} {ev : Ev} (hf : ev.fin = true) (hd : ∀ x ∈ ds, x.e.isNone = false) (ho : dopen ev d = true) : dstep (ds ++ [d]) ev = ds ++ [{ d with e := some ev.step, told := ev.told }] := by
  unfold dstep
  rw [if_pos hf, List.map_append]
  congr 1
  · conv => rhs; rw [← List.map_id ds]
    refine List.map_congr_left fun x hx => ?_
    rw [if_neg]; · rfl
    unfold dopen
    rw [hd x hx]
    simp
  · simp [ho]
theorem Calm.call {m : Mach} {i : Nat} {s : PS} {nx : Nat → Nat} {ws : List Int} {ds : List Dg} (h : Calm m i s nx ws ds) {τ : Nat} {calls : List VCall} {c : VCall} (hc : m.threads[τ]? = some calls) (hk : calls[nx τ]? = some c) {t' : Th} {ws' : List Int} {n : Nat}
    (he : Ends (m.codes.getD c.code []) (vbegin (m.codes.getD c.code []).length c.args) ws n t' ws') (herr : t'.err = 0) :
    Calm m (i + n) (prun m i (List.replicate n τ) s) (upd nx τ (nx τ + 1)) ws' (ds ++ [⟨i, some (i + n - 1), τ, nx τ, t'.told⟩]) := by
  have hτ := (List.getElem?_eq_some_iff.1 hc).1
  obtain ⟨ths, wsx, evs⟩ := s
  obtain ⟨h1, h2, h3, h4, h5, h6⟩ := h
  simp only at h1 h2 h3 h4 h6
  subst h3
  rw [begin_run hc hk he i ths evs (h1 τ hτ)]
  refine ⟨fun t ht => ?_, by simp only [List.length_set]; exact h2, rfl, ?_, fun d hd => ?_, ?_⟩
  · simp only
    unfold upd
    by_cases e : t = τ
    · subst e; rw [if_pos rfl, List.getElem?_set_self (by omega)]
    · rw [if_neg e, List.getElem?_set_ne (fun e' => e e'.symm)]; exact h1 t ht
  · simp only
    rw [doings_snoc, doings_snoc, h4]
    exact dstep_last_ (d := ⟨i, none, τ, nx τ, []⟩) rfl h5 (by simp [dopen])
  · rcases List.mem_append.1 hd with hd | hd
    · exact h5 d hd
    · rw [List.mem_singleton.1 hd]; rfl
  · exact (h6.snoc rfl).snoc herr
theorem Calm.idle {m : Mach} {i : Nat} {s : PS} {nx : Nat → Nat} {ws : List Int} {ds : List Dg} (h : Calm m i s nx ws ds) {τ : Nat} {calls : List VCall} (hc : m.threads[τ]? = some calls) (hk : calls[nx τ]? = none) : ∀ (n j : Nat), prun m j (List.replicate n τ) s = s
  | 0, _ => rfl
  | n + 1, j => by
    have hτ := (List.getElem?_eq_some_iff.1 hc).1
    rw [List.replicate_succ, prun]
    have e : pstep m j τ s = s := by
      obtain ⟨ths, wsx, evs⟩ := s
      unfold pstep
      simp only [h.ths τ hτ, hc, pbeg, hk, pact]
    rw [e]
    exact h.idle hc hk n (j + 1)
/-- so many calls of one thread, each as is said; I: what holds of the words ahead of each call -/
structure Series (m : Mach) (τ : Nat) (calls : List VCall) (K B : Nat) (I : Nat → List Int → Prop) (W : Nat → List Int) : Prop where
  th : m.threads[τ]? = some calls
  call : ∀ j ws, j < K → I j ws → ∃ c n t' ws', calls[j]? = some c ∧ n ≤ B ∧ Ends (m.codes.getD c.code []) (vbegin (m.codes.getD c.code []).length c.args) ws n t' ws' ∧ I (j + 1) ws' ∧ t'.err = 0 ∧ t'.told = W j
/-- the calls of a series -/
structure SerDs (τ k : Nat) (W : Nat → List Int) (ds : List Dg) : Prop where
  len : ds.length = k
  at_ : ∀ (j : Nat) (d : Dg), ds[j]? = some d → d.t = τ ∧ d.c = j ∧ (∃ e, d.e = some e) ∧ d.told = W j
theorem Series.upto {m : Mach} {τ K B : Nat} {calls : List VCall} {I : Nat → List Int → Prop} {W : Nat → List Int} (h : Series m τ calls K B I W) (h0 : I 0 m.words) : ∀ k, k ≤ K → ∃ n s nx ws ds, n ≤ B * k ∧ prun m 0 (List.replicate n τ) (pinit m) = s ∧ Calm m n s nx ws ds ∧ I k ws ∧ nx τ = k ∧ SerDs τ k W ds
  | 0, _ => ⟨0, pinit m, fun _ => 0, m.words, [], Nat.zero_le _, rfl, Calm.start m, h0, rfl, rfl, fun j d hj => by simp at hj⟩
  | k + 1, hk => by
    obtain ⟨n, s, nx, ws, ds, h1, h2, h3, hI, h4, h5⟩ := h.upto h0 k (by omega)
    obtain ⟨c, q, t', ws', c1, c2, c3, cI, c4, c5⟩ := h.call k ws (by omega) hI
    have hC := h3.call h.th (by rw [h4]; exact c1) c3 c4
    have hn : upd nx τ (nx τ + 1) τ = k + 1 := by unfold upd; rw [if_pos rfl, h4]
    refine ⟨n + q, _, upd nx τ (nx τ + 1), ws', ds ++ [{ b := n, e := some (n + q - 1), t := τ, c := nx τ, told := t'.told }], by rw [Nat.mul_succ]; omega, rfl, ?_, cI, hn, ?_⟩
    · rw [show List.replicate (n + q) τ = List.replicate n τ ++ List.replicate q τ by rw [List.replicate_append_replicate], prun_append, h2, List.length_replicate, Nat.zero_add]
      exact hC
    · refine ⟨by rw [List.length_append, h5.len]; rfl, fun j d hj => ?_⟩
      rcases get_snoc hj with hj | ⟨e1, e2⟩
      · exact h5.at_ j d hj
      · rw [h5.len] at e1
        subst e1 e2
        exact ⟨rfl, h4, ⟨_, rfl⟩, c5⟩
theorem Series.play {m : Mach} {τ K B : Nat} {calls : List VCall} {I : Nat → List Int → Prop} {W : Nat → List Int} (h : Series m τ calls K B I W) (h0 : I 0 m.words) (hK : calls.length = K) {L : Nat} (hL : B * K ≤ L) :
    SerDs τ K W (doings (play m (List.replicate L τ)).evs) ∧ NoErr (play m (List.replicate L τ)).evs ∧ I K (play m (List.replicate L τ)).words := by
  obtain ⟨n, s, nx, ws, ds, h1, h2, h3, hI, h4, h5⟩ := h.upto h0 K (Nat.le_refl _)
  have e : Go.Proofs.YtabmkjokeeakdaaDoor.play m (List.replicate L τ) = s := by
    unfold Go.Proofs.YtabmkjokeeakdaaDoor.play
    rw [show List.replicate L τ = List.replicate n τ ++ List.replicate (L - n) τ by rw [List.replicate_append_replicate]; congr 1; omega, prun_append, h2]
    exact h3.idle h.th (by rw [h4]; exact List.getElem?_eq_none (by omega)) _ _
  rw [e, h3.ds_, h3.words]
  exact ⟨h5, h3.err, hI⟩
end Go.Proofs.YtabmkjokeeakdaaDoor
