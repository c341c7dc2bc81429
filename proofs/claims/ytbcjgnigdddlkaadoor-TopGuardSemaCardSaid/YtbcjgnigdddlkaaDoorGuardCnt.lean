/-
  The second calls of a run counted in its events and in its doings: the same numbers.
-/
import Derived.Test.YtbcjgnigdddlkaaDoorDoing2
namespace Go.Proofs.YtbcjgnigdddlkaaDoor
open Go.RowKit
set_option linter.unusedVariables false

/-- one is added to the word W -/
def gcode (W : Nat) : List Op5 := [⟨1, 1, 1, 0, 0⟩, ⟨13, 0, 5, (W : Int), 0⟩, ⟨3, 0, 0, 1, 0⟩, ⟨14, 0, 5, (W : Int), 0⟩]
/-- second calls that ended, that began -/
def kE (l : List Ev) : Nat := (l.filter fun e => e.call % 3 == 1 && e.fin).length
def kB (l : List Ev) : Nat := (l.filter fun e => e.call % 3 == 1 && !e.fin).length
theorem kE_le (l : List Ev) : kE l ≤ l.length := List.length_filter_le _ _
theorem kB_le (l : List Ev) : kB l ≤ l.length := List.length_filter_le _ _
theorem kE_next {l : List Ev} {k : Nat} {e : Ev} (h : l[k]? = some e) : kE (l.take (k + 1)) = kE (l.take k) + (if e.call % 3 == 1 && e.fin then 1 else 0) := by
  unfold kE
  rw [List.take_add_one, h, List.filter_append, List.length_append]
  congr 1
  simp only [Option.toList_some, List.filter_cons, List.filter_nil]
  split <;> rfl
theorem kB_next {l : List Ev} {k : Nat} {e : Ev} (h : l[k]? = some e) : kB (l.take (k + 1)) = kB (l.take k) + (if e.call % 3 == 1 && !e.fin then 1 else 0) := by
  unfold kB
  rw [List.take_add_one, h, List.filter_append, List.length_append]
  congr 1
  simp only [Option.toList_some, List.filter_cons, List.filter_nil]
  split <;> rfl
def dE (ds : List Dg) : Nat := (ds.filter fun d => d.c % 3 == 1 && d.e.isSome).length
def dB (ds : List Dg) : Nat := (ds.filter fun d => d.c % 3 == 1).length
def UQ (ds : List Dg) : Prop := ∀ (j k : Nat) (d d' : Dg), ds[j]? = some d → ds[k]? = some d' → d.t = d'.t → d.c = d'.c → j = k
theorem UQ.tail {d : Dg} {r : List Dg} (h : UQ (d :: r)) : UQ r := fun j k a b hj hk ht hc => by
  have := h (j + 1) (k + 1) a b (by simpa using hj) (by simpa using hk) ht hc
  omega
def dcl (ev : Ev) (d : Dg) : Dg := if dopen ev d then { d with e := some ev.step, told := ev.told } else d
theorem dcl_t (ev : Ev) (d : Dg) : (dcl ev d).t = d.t := by unfold dcl; split <;> rfl
theorem dcl_c (ev : Ev) (d : Dg) : (dcl ev d).c = d.c := by unfold dcl; split <;> rfl
theorem dstep_end {ev : Ev} (hf : ev.fin = true) (ds : List Dg) : dstep ds ev = ds.map (dcl ev) := by unfold dstep; rw [if_pos hf]; rfl
theorem dstep_beg {ev : Ev} (hf : ev.fin = false) (ds : List Dg) : dstep ds ev = ds ++ [⟨ev.step, none, ev.thread, ev.call, []⟩] := by unfold dstep; rw [hf]; rfl
theorem UQ.back {ds : List Dg} {ev : Ev} (h : UQ (dstep ds ev)) : UQ ds := by
  intro j k a b hj hk ht hc
  cases hf : ev.fin with
  | true =>
    rw [dstep_end hf] at h
    refine h j k (dcl ev a) (dcl ev b) (by rw [List.getElem?_map, hj]; rfl) (by rw [List.getElem?_map, hk]; rfl) ?_ ?_
    · rw [dcl_t, dcl_t, ht]
    · rw [dcl_c, dcl_c, hc]
  | false =>
    rw [dstep_beg hf] at h
    exact h j k a b (by rw [List.getElem?_append_left (List.getElem?_eq_some_iff.1 hj).1]; exact hj) (by rw [List.getElem?_append_left (List.getElem?_eq_some_iff.1 hk).1]; exact hk) ht hc
theorem UQ.backs : ∀ (b : List Ev) (ds : List Dg), UQ (b.foldl dstep ds) → UQ ds
  | [], _, h => h
  | e :: b, ds, h => (UQ.backs b (dstep ds e) h).back
theorem UQ.take {evs : List Ev} (h : UQ (doings evs)) (k : Nat) : UQ (doings (evs.take k)) := by
  refine UQ.backs (evs.drop k) _ ?_
  have e : doings evs = (evs.drop k).foldl dstep (doings (evs.take k)) := by
    unfold doings
    rw [← List.foldl_append, List.take_append_drop]
  rw [← e]; exact h
theorem dcl_id {ev : Ev} : ∀ {r : List Dg}, (∀ d ∈ r, dopen ev d = false) → r.map (dcl ev) = r
  | [], _ => rfl
  | d :: r, h => by
    rw [List.map_cons, dcl_id fun x hx => h x (List.mem_cons_of_mem _ hx)]
    unfold dcl
    rw [h d (List.mem_cons_self ..)]; rfl
theorem dE_cons (d : Dg) (r : List Dg) : dE (d :: r) = (if d.c % 3 == 1 && d.e.isSome then 1 else 0) + dE r := by
  unfold dE
  rw [List.filter_cons]
  split
  · rw [List.length_cons]; omega
  · omega
theorem dE_close {ev : Ev} : ∀ (ds : List Dg), UQ ds → (∃ d ∈ ds, dopen ev d = true) → dE (ds.map (dcl ev)) = dE ds + (if ev.call % 3 == 1 then 1 else 0)
  | [], _, ⟨d, hd, _⟩ => by cases hd
  | d :: r, hU, hx => by
    rw [List.map_cons, dE_cons, dE_cons]
    by_cases ho : dopen ev d = true
    · have hk : d.t = ev.thread ∧ d.c = ev.call ∧ d.e.isNone = true := by
        unfold dopen at ho
        simp only [Bool.and_eq_true, beq_iff_eq] at ho
        exact ⟨ho.1.1, ho.1.2, ho.2⟩
      have hr : ∀ x ∈ r, dopen ev x = false := fun x hx => by
        rw [Bool.eq_false_iff]
        intro h
        unfold dopen at h
        simp only [Bool.and_eq_true, beq_iff_eq] at h
        obtain ⟨i, hi⟩ := List.getElem?_of_mem hx
        have := hU 0 (i + 1) d x rfl (by simpa using hi) (by rw [hk.1, h.1.1]) (by rw [hk.2.1, h.1.2])
        omega
      rw [dcl_id hr]
      have e1 : (dcl ev d).c = ev.call := by rw [dcl_c, hk.2.1]
      have e2 : (dcl ev d).e.isSome = true := by unfold dcl; rw [if_pos ho]; rfl
      have e3 : d.e.isSome = false := by cases h : d.e with
        | none => rfl
        | some x => have := hk.2.2; rw [h] at this; cases this
      rw [e1, e2, e3, Bool.and_true, Bool.and_false]
      split <;> simp <;> omega
    · have ho := Bool.eq_false_iff.2 ho
      have e1 : dcl ev d = d := by unfold dcl; rw [ho]; rfl
      obtain ⟨x, hx1, hx2⟩ := hx
      rw [e1, dE_close r hU.tail (by
        rcases List.mem_cons.1 hx1 with rfl | h
        · rw [hx2] at ho; cases ho
        · exact ⟨x, h, hx2⟩)]
      omega
theorem dE_snoc (ds : List Dg) (d : Dg) (h : d.e = none) : dE (ds ++ [d]) = dE ds := by
  unfold dE
  rw [List.filter_append, List.length_append, List.filter_cons, h]
  simp
theorem dB_snoc (ds : List Dg) (d : Dg) : dB (ds ++ [d]) = dB ds + (if d.c % 3 == 1 then 1 else 0) := by
  unfold dB
  rw [List.filter_append, List.length_append, List.filter_cons]
  split <;> simp
theorem dB_map (ev : Ev) (ds : List Dg) : dB (ds.map (dcl ev)) = dB ds := by
  unfold dB
  rw [List.filter_map, List.length_map]
  congr 1
  refine List.filter_congr fun d _ => ?_
  show ((dcl ev d).c % 3 == 1) = _
  rw [dcl_c]
/-- the same numbers -/
theorem k_d {evs : List Ev} (hU : UQ (doings evs)) (hF : FI evs) : ∀ k, k ≤ evs.length → kE (evs.take k) = dE (doings (evs.take k)) ∧ kB (evs.take k) = dB (doings (evs.take k))
  | 0, _ => ⟨rfl, rfl⟩
  | k + 1, hk => by
    obtain ⟨i1, i2⟩ := k_d hU hF k (by omega)
    have he : evs[k]? = some evs[k] := List.getElem?_eq_getElem (by omega)
    generalize evs[k] = e at he
    have hs : evs.take (k + 1) = evs.take k ++ [e] := by rw [List.take_add_one, he]; rfl
    rw [kE_next he, kB_next he, hs, doings_snoc]
    cases hf : e.fin with
    | true =>
      rw [dstep_end hf, dE_close _ (hU.take k) (hF k e he hf), dB_map, i1, i2]
      simp
    | false =>
      rw [dstep_beg hf, dE_snoc _ _ rfl, dB_snoc, i1, i2]
      simp
theorem k_doings {evs : List Ev} (hU : UQ (doings evs)) (hF : FI evs) : kE evs = dE (doings evs) ∧ kB evs = dB (doings evs) := by
  have h := k_d hU hF evs.length (Nat.le_refl _)
  rwa [List.take_length] at h
/-- one more has ended -/
theorem dE_set {ds : List Dg} {k : Nat} {d d' : Dg} (h : ds[k]? = some d) (he : d.e = none) (hc : d'.c = d.c) (he' : d'.e.isSome = true) : dE (ds.set k d') = dE ds + (if d.c % 3 == 1 then 1 else 0) := by
  induction ds generalizing k with
  | nil => simp at h
  | cons x r ih =>
    cases k with
    | zero =>
      simp only [List.getElem?_cons_zero, Option.some.injEq] at h
      subst h
      rw [List.set_cons_zero, dE_cons, dE_cons, hc, he', he]
      simp
      omega
    | succ k =>
      rw [List.set_cons_succ, dE_cons, dE_cons, ih (by simpa using h)]
      omega
theorem dB_set {ds : List Dg} {k : Nat} {d d' : Dg} (h : ds[k]? = some d) (hc : d'.c = d.c) : dB (ds.set k d') = dB ds := by
  induction ds generalizing k with
  | nil => simp at h
  | cons x r ih =>
    cases k with
    | zero =>
      simp only [List.getElem?_cons_zero, Option.some.injEq] at h
      subst h
      unfold dB
      rw [List.set_cons_zero, List.filter_cons, List.filter_cons, hc]
      split <;> rfl
    | succ k =>
      have h2 := ih (k := k) (by simpa using h)
      unfold dB at h2 ⊢
      rw [List.set_cons_succ, List.filter_cons, List.filter_cons]
      split
      · rw [List.length_cons, List.length_cons, h2]
      · exact h2
/-- as many as have ended, and who is at it: one at most -/
theorem dB_dE (ds : List Dg) : dB ds = dE ds + (ds.filter fun d => d.c % 3 == 1 && d.e.isNone).length := by
  unfold dB dE
  induction ds with
  | nil => rfl
  | cons d r ih =>
    rw [List.filter_cons, List.filter_cons, List.filter_cons]
    cases h1 : d.c % 3 == 1 <;> cases h2 : d.e <;> simp [ih] <;> omega
theorem filter_one {P : Dg → Bool} : ∀ {ds : List Dg}, (∀ (j k : Nat) (d d' : Dg), ds[j]? = some d → ds[k]? = some d' → P d = true → P d' = true → j = k) → (ds.filter P).length ≤ 1
  | [], _ => by simp
  | d :: r, h => by
    rw [List.filter_cons]
    have hr := filter_one (P := P) (ds := r) (fun j k a b hj hk ha hb => by
      have := h (j + 1) (k + 1) a b (by simpa using hj) (by simpa using hk) ha hb
      omega)
    by_cases hp : P d = true
    · rw [if_pos hp, List.length_cons]
      have : r.filter P = [] := List.filter_eq_nil_iff.2 fun x hx hpx => by
        obtain ⟨i, hi⟩ := List.getElem?_of_mem hx
        have := h 0 (i + 1) d x rfl (by simpa using hi) hp hpx
        omega
      rw [this]; simp
    · rw [if_neg hp]; exact hr
end Go.Proofs.YtbcjgnigdddlkaaDoor
