/-
  The bakery under whatever schedule, around a section that writes behind the bakery's words: plain laws (after LockLaw). The second calls of a run counted in its events and in its doings: the same numbers. What a lock guards is not lost: plain. The section: set a one, load the word, add, store. (Merged by merge.py.)
-/
import Derived.Test.YtbcjgnigdddlkaaDoorLockSh
import Derived.Test.YtbcjgnigdddlkaaDoorInside
import Derived.Test.YtbcjgnigdddlkaaDoorDoing2
import Derived.Test.YtbcjgnigdddlkaaDoorLDef
namespace Go.Proofs.YtbcjgnigdddlkaaDoor
set_option linter.unusedVariables false

section
open Go.RowKit
/-- the call nx of thread t: it comes in, stays, and leaves -/
def lcallAt (t nx : Nat) : VCall := if nx % 3 = 0 then ⟨0, [(t : Int)]⟩ else if nx % 3 = 1 then ⟨2, []⟩ else ⟨1, [(t : Int)]⟩
/-- a machine of threads that do so; Q: what holds of who stays -/
structure LM (n : Nat) (m : Mach) (Q : Th → Prop) : Prop where
  h1 : 1 ≤ n
  h4 : n ≤ 4
  len : m.threads.length = n
  c0 : m.codes.getD 0 [] = lenterCode n
  c1 : m.codes.getD 1 [] = lleaveCode n
  call : ∀ (t nx : Nat) (calls : List VCall) (c : VCall), m.threads[t]? = some calls → calls[nx]? = some c → c = lcallAt t nx
  q0 : Q (vbegin (m.codes.getD 2 []).length [])
  sec : ∀ (T : Th) (ws : List Int), Q T → ws.length = m.words.length → (vstep (m.codes.getD 2 []) T ws).1.err = 0 ∧ (vstep (m.codes.getD 2 []) T ws).2.length = ws.length ∧ (∀ i : Nat, i < 2 * n → vget (vstep (m.codes.getD 2 []) T ws).2 (i : Int) = vget ws (i : Int)) ∧ ((vstep (m.codes.getD 2 []) T ws).1.over = false → Q (vstep (m.codes.getD 2 []) T ws).1)
  wl : 2 * n ≤ m.words.length
  w0 : ∀ i : Nat, i < 2 * n → vget m.words (i : Int) = 0
def TSh (n : Nat) (Q : Th → Prop) (t : Nat) (p : PT) (a : LA) : Prop :=
  match p.cur with
  | none => (p.next % 3 = 0 ∧ a = .idle) ∨ (p.next % 3 ≠ 0 ∧ ∃ m, a = .wait n m)
  | some (ci, T) => (p.next % 3 = 1 ∧ ci = 0 ∧ ESh n t T a) ∨ (p.next % 3 = 2 ∧ ci = 2 ∧ Q T ∧ ∃ m, a = .wait n m) ∨ (p.next % 3 = 0 ∧ ci = 1 ∧ T = ⟨(t : Int) :: List.replicate 23 0, 0, [], 0, false⟩ ∧ ∃ m, a = .wait n m)
structure LockI (n N : Nat) (Q : Th → Prop) (i : Nat) (ths : List PT) (ws : List Int) (A : Nat → LA) : Prop where
  g : GInv n i A
  wlen : ws.length = N
  w : WM n A ws
  len : ths.length = n
  sh : ∀ (t : Nat) (p : PT), ths[t]? = some p → TSh n Q t p (A t)
theorem lvbegin {len : Nat} (h : 0 < len) (args : List Int) : (vbegin len args).over = false := by
  unfold vbegin
  simp
  omega
theorem WM.keep {n : Nat} {A : Nat → LA} {ws ws' : List Int} (h : WM n A ws) (hl : ws'.length = ws.length) (hk : ∀ i : Nat, i < 2 * n → vget ws' (i : Int) = vget ws (i : Int)) : WM n A ws' :=
  ⟨by rw [hl]; exact h.len, fun t ht => by rw [hk t (by omega)]; exact h.chs t ht, fun t ht => by rw [hk (n + t) (by omega)]; exact h.num t ht⟩
theorem lock_keeps {n : Nat} {m : Mach} {Q : Th → Prop} (M : LM n m Q) {l : List Nat} (hl : l.length ≤ 6000) : PKeeps m l (fun i ths ws _ => ∃ A, LockI n m.words.length Q i ths ws A) where
  idle := fun i s t hi hD ⟨A, h⟩ hn => ⟨A, h.g.mono, h.wlen, h.w, h.len, h.sh⟩
  begin_ := by
    rintro i s t nx calls c hi hD ⟨A, h⟩ hn hc hcc
    have hcall := M.call t nx calls c hc hcc
    refine ⟨A, h.g, h.wlen, h.w, by rw [List.length_set]; exact h.len, fun u p hp => ?_⟩
    rcases get_set hp with ⟨rfl, rfl⟩ | ⟨_, hp⟩
    · have h0 := h.sh u _ hn
      unfold TSh at h0 ⊢
      simp only at h0 ⊢
      unfold lcallAt at hcall
      by_cases e0 : nx % 3 = 0
      · rw [if_pos e0] at hcall
        subst hcall
        rcases h0 with ⟨_, h0⟩ | ⟨h0, _⟩
        · refine .inl ⟨by omega, rfl, ?_⟩
          rw [h0]
          show ESh n u (vbegin (m.codes.getD 0 []).length [(u : Int)]) .idle
          rw [M.c0, lenter_len M.h1 M.h4]
          exact .e0
        · exact absurd e0 h0
      · rw [if_neg e0] at hcall
        rcases h0 with ⟨h0, _⟩ | ⟨_, h0⟩
        · exact absurd h0 e0
        · by_cases e1 : nx % 3 = 1
          · rw [if_pos e1] at hcall
            subst hcall
            exact .inr (.inl ⟨by omega, rfl, M.q0, h0⟩)
          · rw [if_neg e1] at hcall
            subst hcall
            refine .inr (.inr ⟨by omega, rfl, ?_, h0⟩)
            show vbegin (m.codes.getD 1 []).length [(u : Int)] = _
            rw [M.c1]
            rfl
    · exact h.sh u p hp
  cont := by
    rintro i s t nx ci T hi hD ⟨A, h⟩ hn hov
    have hi6 : i ≤ 6000 := by have := (List.getElem?_eq_some_iff.1 hi).1; omega
    have htn : t < n := by have := (List.getElem?_eq_some_iff.1 hn).1; have := h.len; omega
    have h0 := h.sh t _ hn
    unfold TSh at h0
    simp only at h0
    rcases h0 with ⟨a1, rfl, a3⟩ | ⟨a1, rfl, a3, a4⟩ | ⟨a1, rfl, a3, a4⟩
    · rw [M.c0] at hov ⊢
      obtain ⟨a', E⟩ := enter_step M.h1 M.h4 htn hi6 h.g h.w a3
      rcases E.sh with ⟨_, E2⟩ | ⟨E1, _⟩
      · refine ⟨upd A t a', h.g.step htn E.tr, E.len.trans h.wlen, E.wm, by rw [List.length_set]; exact h.len, fun u p hp => ?_⟩
        rcases get_set hp with ⟨rfl, rfl⟩ | ⟨e, hp⟩
        · rw [upd_same]; exact .inl ⟨a1, rfl, E2⟩
        · rw [upd_ne _ _ _ _ e]; exact h.sh u p hp
      · rw [E1] at hov; cases hov
    · obtain ⟨b1, b2, b3, b4⟩ := M.sec T s.words a3 h.wlen
      refine ⟨A, h.g.mono, b2.trans h.wlen, h.w.keep b2 b3, by rw [List.length_set]; exact h.len, fun u p hp => ?_⟩
      rcases get_set hp with ⟨rfl, rfl⟩ | ⟨e, hp⟩
      · exact .inr (.inl ⟨a1, rfl, b4 hov, a4⟩)
      · exact h.sh u p hp
    · subst a3
      obtain ⟨mm, ha⟩ := a4
      rw [M.c1, (leave_step M.h1 M.h4 htn h.w ha).1] at hov
      cases hov
  fin_ := by
    rintro i s t nx ci T k0 d0 hi hD ⟨A, h⟩ hn hov hk0 ht0 hdc0 he0 htold
    have hi6 : i ≤ 6000 := by have := (List.getElem?_eq_some_iff.1 hi).1; omega
    have htn : t < n := by have := (List.getElem?_eq_some_iff.1 hn).1; have := h.len; omega
    have h0 := h.sh t _ hn
    unfold TSh at h0
    simp only at h0
    rcases h0 with ⟨a1, rfl, a3⟩ | ⟨a1, rfl, a3, a4⟩ | ⟨a1, rfl, a3, a4⟩
    · rw [M.c0] at hov ⊢
      obtain ⟨a', E⟩ := enter_step M.h1 M.h4 htn hi6 h.g h.w a3
      rcases E.sh with ⟨E1, _⟩ | ⟨_, E2⟩
      · rw [E1] at hov; cases hov
      · refine ⟨⟨upd A t a', h.g.step htn E.tr, E.len.trans h.wlen, E.wm, by rw [List.length_set]; exact h.len, fun u p hp => ?_⟩, E.err⟩
        rcases get_set hp with ⟨rfl, rfl⟩ | ⟨e, hp⟩
        · rw [upd_same]; exact .inr ⟨by show nx % 3 ≠ 0; omega, E2⟩
        · rw [upd_ne _ _ _ _ e]; exact h.sh u p hp
    · obtain ⟨b1, b2, b3, b4⟩ := M.sec T s.words a3 h.wlen
      refine ⟨⟨A, h.g.mono, b2.trans h.wlen, h.w.keep b2 b3, by rw [List.length_set]; exact h.len, fun u p hp => ?_⟩, b1⟩
      rcases get_set hp with ⟨rfl, rfl⟩ | ⟨e, hp⟩
      · exact .inr ⟨by show nx % 3 ≠ 0; omega, a4⟩
      · exact h.sh u p hp
    · subst a3
      obtain ⟨mm, ha⟩ := a4
      obtain ⟨e1, e2⟩ := leave_step M.h1 M.h4 htn h.w ha
      rw [M.c1, e1]
      have htr : LTr n A t (A t) .idle := by rw [ha]; exact .t10 mm
      refine ⟨⟨upd A t .idle, h.g.step htn htr, by show (vset s.words _ 0).length = _; unfold vset; rw [List.length_set]; exact h.wlen, e2, by rw [List.length_set]; exact h.len, fun u p hp => ?_⟩, rfl⟩
      rcases get_set hp with ⟨rfl, rfl⟩ | ⟨e, hp⟩
      · rw [upd_same]; exact .inl ⟨a1, rfl⟩
      · rw [upd_ne _ _ _ _ e]; exact h.sh u p hp
theorem lock_play {n : Nat} {m : Mach} {Q : Th → Prop} (M : LM n m Q) {l : List Nat} (hl : l.length ≤ 6000) :
    (∃ A, LockI n m.words.length Q l.length (play m l).ths (play m l).words A) ∧ NoErr (play m l).evs := by
  refine (lock_keeps M hl).play ⟨fun _ => .idle, GInv.init n, rfl, ⟨M.wl, fun t ht => M.w0 t (by omega), fun t ht => M.w0 (n + t) (by omega)⟩, by unfold pinit; rw [List.length_replicate]; exact M.len, fun t p hp => ?_⟩
  unfold pinit at hp
  simp only [List.getElem?_replicate] at hp
  split at hp
  · injection hp with hp; subst hp; exact .inl ⟨rfl, rfl⟩
  · cases hp
/-- no two are inside at a time -/
theorem lock_apart {n : Nat} {m : Mach} {Q : Th → Prop} (M : LM n m Q) {l : List Nat} (hl : l.length ≤ 6000) {T : Nat} (hT : T ≤ l.length) {k k' : Nat} {d d' : Dg} (hk : (doings (play m l).evs)[k]? = some d) (hk' : (doings (play m l).evs)[k']? = some d') (hne : d.t ≠ d'.t)
    (h : isin (doings (play m l).evs) T d = true) (h' : isin (doings (play m l).evs) T d' = true) : False := by
  obtain ⟨⟨A, L⟩, _⟩ := lock_play M (l := l.take T) (by rw [List.length_take]; omega)
  have key : ∀ {k : Nat} {d : Dg}, (doings (play m l).evs)[k]? = some d → isin (doings (play m l).evs) T d = true → d.t < n ∧ ∃ mm, A d.t = .wait n mm := by
    intro k d hk h
    obtain ⟨p, hp, h1⟩ := inside_thread hT hk h
    have hc := (isin_iff.1 h).1
    have hs := L.sh _ p hp
    have hlt : d.t < n := by have := (List.getElem?_eq_some_iff.1 hp).1; have := L.len; omega
    refine ⟨hlt, ?_⟩
    obtain ⟨nx, cur⟩ := p
    unfold TSh at hs
    simp only at hs h1
    cases cur with
    | none =>
      rcases hs with ⟨h2, _⟩ | ⟨_, h2⟩
      · omega
      · exact h2
    | some x =>
      obtain ⟨ci, T0⟩ := x
      simp only at hs
      rcases h1 with ⟨h1, _⟩ | h1
      · cases h1
      · rcases hs with ⟨h2, _⟩ | ⟨_, _, _, h2⟩ | ⟨h2, _⟩
        · omega
        · exact h2
        · omega
  obtain ⟨a1, m1, a2⟩ := key hk h
  obtain ⟨b1, m2, b2⟩ := key hk' h'
  exact L.g.one a1 b1 hne a2 b2
/-! ### the machine of lockMachine -/
end

section
open Go.RowKit
/-- one is added to the word W -/
def gcode (W : Nat) : List Op5 := [⟨1, 1, 1, 0, 0⟩, ⟨13, 0, 5, (W : Int), 0⟩, ⟨3, 0, 0, 1, 0⟩, ⟨14, 0, 5, (W : Int), 0⟩]
/-- second calls that ended, that began -/
def kE (l : List Ev) : Nat := (l.filter fun e => e.call % 3 == 1 && e.fin).length
def kB (l : List Ev) : Nat := (l.filter fun e => e.call % 3 == 1 && !e.fin).length
theorem kE_le (l : List Ev) : kE l ≤ l.length := List.length_filter_le _ _
theorem kB_le (l : List Ev) : kB l ≤ l.length := List.length_filter_le _ _
theorem kE_next {l : List Ev} {k : Nat} {e : Ev} (h : l[k]? = some e) : kE (l.take (k + 1)) = kE (l.take k) + (if e.call % 3 == 1 && e.fin then 1 else 0) := by
  unfold kE
  rw [List.take_add_one, h, List.filter_append, List.length_append]
  congr 1
  simp only [Option.toList_some, List.filter_cons, List.filter_nil]
  split <;> rfl
theorem kB_next {l : List Ev} {k : Nat} {e : Ev} (h : l[k]? = some e) : kB (l.take (k + 1)) = kB (l.take k) + (if e.call % 3 == 1 && !e.fin then 1 else 0) := by
  unfold kB
  rw [List.take_add_one, h, List.filter_append, List.length_append]
  congr 1
  simp only [Option.toList_some, List.filter_cons, List.filter_nil]
  split <;> rfl
def dE (ds : List Dg) : Nat := (ds.filter fun d => d.c % 3 == 1 && d.e.isSome).length
def dB (ds : List Dg) : Nat := (ds.filter fun d => d.c % 3 == 1).length
def UQ (ds : List Dg) : Prop := ∀ (j k : Nat) (d d' : Dg), ds[j]? = some d → ds[k]? = some d' → d.t = d'.t → d.c = d'.c → j = k
theorem UQ.tail {d : Dg} {r : List Dg} (h : UQ (d :: r)) : UQ r := fun j k a b hj hk ht hc => by
  have := h (j + 1) (k + 1) a b (by simpa using hj) (by simpa using hk) ht hc
  omega
def dcl (ev : Ev) (d : Dg) : Dg := if dopen ev d then { d with e := some ev.step, told := ev.told } else d
theorem dcl_t (ev : Ev) (d : Dg) : (dcl ev d).t = d.t := by unfold dcl; split <;> rfl
theorem dcl_c (ev : Ev) (d : Dg) : (dcl ev d).c = d.c := by unfold dcl; split <;> rfl
theorem dstep_end {ev : Ev} (hf : ev.fin = true) (ds : List Dg) : dstep ds ev = ds.map (dcl ev) := by unfold dstep; rw [if_pos hf]; rfl
theorem dstep_beg {ev : Ev} (hf : ev.fin = false) (ds : List Dg) : dstep ds ev = ds ++ [⟨ev.step, none, ev.thread, ev.call, []⟩] := by unfold dstep; rw [hf]; rfl
theorem UQ.back {ds : List Dg} {ev : Ev} (h : UQ (dstep ds ev)) : UQ ds := by
  intro j k a b hj hk ht hc
  cases hf : ev.fin with
  | true =>
    rw [dstep_end hf] at h
    refine h j k (dcl ev a) (dcl ev b) (by rw [List.getElem?_map, hj]; rfl) (by rw [List.getElem?_map, hk]; rfl) ?_ ?_
    · rw [dcl_t, dcl_t, ht]
    · rw [dcl_c, dcl_c, hc]
  | false =>
    rw [dstep_beg hf] at h
    exact h j k a b (by rw [List.getElem?_append_left (List.getElem?_eq_some_iff.1 hj).1]; exact hj) (by rw [List.getElem?_append_left (List.getElem?_eq_some_iff.1 hk).1]; exact hk) ht hc
theorem UQ.backs : ∀ (b : List Ev) (ds : List Dg), UQ (b.foldl dstep ds) → UQ ds
  | [], _, h => h
  | e :: b, ds, h => (UQ.backs b (dstep ds e) h).back
theorem UQ.take {evs : List Ev} (h : UQ (doings evs)) (k : Nat) : UQ (doings (evs.take k)) := by
  refine UQ.backs (evs.drop k) _ ?_
  have e : doings evs = (evs.drop k).foldl dstep (doings (evs.take k)) := by
    unfold doings
    rw [← List.foldl_append, List.take_append_drop]
  rw [← e]; exact h
theorem dcl_id {ev : Ev} : ∀ {r : List Dg}, (∀ d ∈ r, dopen ev d = false) → r.map (dcl ev) = r
  | [], _ => rfl
  | d :: r, h => by
    rw [List.map_cons, dcl_id fun x hx => h x (List.mem_cons_of_mem _ hx)]
    unfold dcl
    rw [h d (List.mem_cons_self ..)]; rfl
theorem dE_cons (d : Dg) (r : List Dg) : dE (d :: r) = (if d.c % 3 == 1 && d.e.isSome then 1 else 0) + dE r := by
  unfold dE
  rw [List.filter_cons]
  split
  · rw [List.length_cons]; omega
  · omega
theorem dE_close {ev : Ev} : ∀ (ds : List Dg), UQ ds → (∃ d ∈ ds, dopen ev d = true) → dE (ds.map (dcl ev)) = dE ds + (if ev.call % 3 == 1 then 1 else 0)
  | [], _, ⟨d, hd, _⟩ => by cases hd
  | d :: r, hU, hx => by
    rw [List.map_cons, dE_cons, dE_cons]
    by_cases ho : dopen ev d = true
    · have hk : d.t = ev.thread ∧ d.c = ev.call ∧ d.e.isNone = true := by
        unfold dopen at ho
        simp only [Bool.and_eq_true, beq_iff_eq] at ho
        exact ⟨ho.1.1, ho.1.2, ho.2⟩
      have hr : ∀ x ∈ r, dopen ev x = false := fun x hx => by
        rw [Bool.eq_false_iff]
        intro h
        unfold dopen at h
        simp only [Bool.and_eq_true, beq_iff_eq] at h
        obtain ⟨i, hi⟩ := List.getElem?_of_mem hx
        have := hU 0 (i + 1) d x rfl (by simpa using hi) (by rw [hk.1, h.1.1]) (by rw [hk.2.1, h.1.2])
        omega
      rw [dcl_id hr]
      have e1 : (dcl ev d).c = ev.call := by rw [dcl_c, hk.2.1]
      have e2 : (dcl ev d).e.isSome = true := by unfold dcl; rw [if_pos ho]; rfl
      have e3 : d.e.isSome = false := by cases h : d.e with
        | none => rfl
        | some x => have := hk.2.2; rw [h] at this; cases this
      rw [e1, e2, e3, Bool.and_true, Bool.and_false]
      split <;> simp <;> omega
    · have ho := Bool.eq_false_iff.2 ho
      have e1 : dcl ev d = d := by unfold dcl; rw [ho]; rfl
      obtain ⟨x, hx1, hx2⟩ := hx
      rw [e1, dE_close r hU.tail (by
        rcases List.mem_cons.1 hx1 with rfl | h
        · rw [hx2] at ho; cases ho
        · exact ⟨x, h, hx2⟩)]
      omega
theorem dE_snoc (ds : List Dg) (d : Dg) (h : d.e = none) : dE (ds ++ [d]) = dE ds := by
  unfold dE
  rw [List.filter_append, List.length_append, List.filter_cons, h]
  simp
theorem dB_snoc (ds : List Dg) (d : Dg) : dB (ds ++ [d]) = dB ds + (if d.c % 3 == 1 then 1 else 0) := by
  unfold dB
  rw [List.filter_append, List.length_append, List.filter_cons]
  split <;> simp
theorem dB_map (ev : Ev) (ds : List Dg) : dB (ds.map (dcl ev)) = dB ds := by
  unfold dB
  rw [List.filter_map, List.length_map]
  congr 1
  refine List.filter_congr fun d _ => ?_
  show ((dcl ev d).c % 3 == 1) = _
  rw [dcl_c]
/-- the same numbers -/
theorem k_d {evs : List Ev} (hU : UQ (doings evs)) (hF : FI evs) : ∀ k, k ≤ evs.length → kE (evs.take k) = dE (doings (evs.take k)) ∧ kB (evs.take k) = dB (doings (evs.take k))
  | 0, _ => ⟨rfl, rfl⟩
  | k + 1, hk => by
    obtain ⟨i1, i2⟩ := k_d hU hF k (by omega)
    have he : evs[k]? = some evs[k] := List.getElem?_eq_getElem (by omega)
    generalize evs[k] = e at he
    have hs : evs.take (k + 1) = evs.take k ++ [e] := by rw [List.take_add_one, he]; rfl
    rw [kE_next he, kB_next he, hs, doings_snoc]
    cases hf : e.fin with
    | true =>
      rw [dstep_end hf, dE_close _ (hU.take k) (hF k e he hf), dB_map, i1, i2]
      simp
    | false =>
      rw [dstep_beg hf, dE_snoc _ _ rfl, dB_snoc, i1, i2]
      simp
theorem k_doings {evs : List Ev} (hU : UQ (doings evs)) (hF : FI evs) : kE evs = dE (doings evs) ∧ kB evs = dB (doings evs) := by
  have h := k_d hU hF evs.length (Nat.le_refl _)
  rwa [List.take_length] at h
/-- one more has ended -/
theorem dE_set {ds : List Dg} {k : Nat} {d d' : Dg} (h : ds[k]? = some d) (he : d.e = none) (hc : d'.c = d.c) (he' : d'.e.isSome = true) : dE (ds.set k d') = dE ds + (if d.c % 3 == 1 then 1 else 0) := by
  induction ds generalizing k with
  | nil => simp at h
  | cons x r ih =>
    cases k with
    | zero =>
      simp only [List.getElem?_cons_zero, Option.some.injEq] at h
      subst h
      rw [List.set_cons_zero, dE_cons, dE_cons, hc, he', he]
      simp
      omega
    | succ k =>
      rw [List.set_cons_succ, dE_cons, dE_cons, ih (by simpa using h)]
      omega
theorem dB_set {ds : List Dg} {k : Nat} {d d' : Dg} (h : ds[k]? = some d) (hc : d'.c = d.c) : dB (ds.set k d') = dB ds := by
  induction ds generalizing k with
  | nil => simp at h
  | cons x r ih =>
    cases k with
    | zero =>
      simp only [List.getElem?_cons_zero, Option.some.injEq] at h
      subst h
      unfold dB
      rw [List.set_cons_zero, List.filter_cons, List.filter_cons, hc]
      split <;> rfl
    | succ k =>
      have h2 := ih (k := k) (by simpa using h)
      unfold dB at h2 ⊢
      rw [List.set_cons_succ, List.filter_cons, List.filter_cons]
      split
      · rw [List.length_cons, List.length_cons, h2]
      · exact h2
/-- as many as have ended, and who is at it: one at most -/
theorem dB_dE (ds : List Dg) : dB ds = dE ds + (ds.filter fun d => d.c % 3 == 1 && d.e.isNone).length := by
  unfold dB dE
  induction ds with
  | nil => rfl
  | cons d r ih =>
    rw [List.filter_cons, List.filter_cons, List.filter_cons]
    cases h1 : d.c % 3 == 1 <;> cases h2 : d.e <;> simp [ih] <;> omega
theorem filter_one {P : Dg → Bool} : ∀ {ds : List Dg}, (∀ (j k : Nat) (d d' : Dg), ds[j]? = some d → ds[k]? = some d' → P d = true → P d' = true → j = k) → (ds.filter P).length ≤ 1
  | [], _ => by simp
  | d :: r, h => by
    rw [List.filter_cons]
    have hr := filter_one (P := P) (ds := r) (fun j k a b hj hk ha hb => by
      have := h (j + 1) (k + 1) a b (by simpa using hj) (by simpa using hk) ha hb
      omega)
    by_cases hp : P d = true
    · rw [if_pos hp, List.length_cons]
      have : r.filter P = [] := List.filter_eq_nil_iff.2 fun x hx hpx => by
        obtain ⟨i, hi⟩ := List.getElem?_of_mem hx
        have := h 0 (i + 1) d x rfl (by simpa using hi) hp hpx
        omega
      rw [this]; simp
    · rw [if_neg hp]; exact hr
end

section
open Go.RowKit
abbrev gT (pc : Nat) (a b : Int) : Th := ⟨a :: b :: List.replicate 22 0, pc, [], 0, false⟩
theorem g_0 (W : Nat) (ws : List Int) : vstep (gcode W) (gT 0 0 0) ws = (gT 1 0 1, ws) := rfl
theorem g_1 {W : Nat} {ws : List Int} (hw : W ≤ 200) (hl : W < ws.length) : vstep (gcode W) (gT 1 0 1) ws = (gT 2 (vget ws (W : Int)) 1, ws) :=
  vs_load (code := gcode W) (a := 0) (b := 5) (c := (W : Int)) (d := 0) (ad := (W : Int)) (t := gT 1 0 1) rfl rfl ((lwrap (x := (0 : Int) + (W : Int)) (by omega) (by omega)).trans (by omega)) (by omega) (by omega) rfl
theorem g_2 (W : Nat) (ws : List Int) (v : Int) : vstep (gcode W) (gT 2 v 1) ws = (gT 3 (wrap64 (v + 1)) 1, ws) := rfl
theorem g_3 {W : Nat} {ws : List Int} (hw : W ≤ 200) (hl : W < ws.length) (v : Int) : vstep (gcode W) (gT 3 v 1) ws = ({ gT 4 v 1 with over := true }, vset ws (W : Int) v) :=
  vs_store (code := gcode W) (a := 0) (b := 5) (c := (W : Int)) (d := 0) (ad := (W : Int)) (t := gT 3 v 1) rfl rfl ((lwrap (x := (0 : Int) + (W : Int)) (by omega) (by omega)).trans (by omega)) (by omega) (by omega) rfl
/-- who stays, whatever the words -/
def GQ (T : Th) : Prop := T = gT 0 0 0 ∨ T = gT 1 0 1 ∨ (∃ v, T = gT 2 v 1) ∨ ∃ v, T = gT 3 v 1
/-- who stays, by the word -/
def GW (w : Int) (T : Th) : Prop := T = gT 0 0 0 ∨ T = gT 1 0 1 ∨ T = gT 2 w 1 ∨ T = gT 3 (w + 1) 1
theorem lround_w {work t : Nat} (hw : 0 < work) : lround work t = [⟨0, [(t : Int)]⟩, ⟨2, []⟩, ⟨1, [(t : Int)]⟩] := by unfold lround; rw [if_pos hw]
theorem lcalls_lenw {work t : Nat} (hw : 0 < work) : ∀ i, (lcalls work t i).length = 3 * i
  | 0 => rfl
  | i + 1 => by rw [lcalls, List.length_append, lcalls_lenw hw i, lround_w hw]; simp; omega
theorem lcalls_at {work t : Nat} (hw : 0 < work) : ∀ (i nx : Nat) (c : VCall), (lcalls work t i)[nx]? = some c → c = lcallAt t nx
  | 0, nx, c, h => by simp [lcalls] at h
  | i + 1, nx, c, h => by
    rw [lcalls, List.getElem?_append, lcalls_lenw hw] at h
    split at h
    · exact lcalls_at hw i nx c h
    · rename_i hl
      rw [lround_w hw] at h
      obtain ⟨r, hr⟩ : ∃ r, nx = 3 * i + r := ⟨nx - 3 * i, by omega⟩
      subst hr
      rw [Nat.add_sub_cancel_left] at h
      have e : (3 * i + r) % 3 = r % 3 := by omega
      unfold lcallAt
      rw [e]
      match r, h with
      | 0, h => simp at h; rw [← h]; rfl
      | 1, h => simp at h; rw [← h]; rfl
      | 2, h => simp at h; rw [← h]; rfl
      | r + 3, h => simp at h
/-- the machine: its words, and one behind them -/
def gmach (n : Nat) : Mach := ⟨List.replicate (2 * n) 0 ++ [0], [lenterCode n, lleaveCode n, gcode (2 * n)], (List.range n).map fun t => lcalls 1 t 6⟩
theorem gmach_wl (n : Nat) : (gmach n).words.length = 2 * n + 1 := by unfold gmach; simp
theorem gmach_lm {n : Nat} (h1 : 1 ≤ n) (h4 : n ≤ 4) : LM n (gmach n) GQ where
  h1 := h1
  h4 := h4
  len := by unfold gmach; simp
  c0 := rfl
  c1 := rfl
  call := fun t nx calls c h hc => by
    unfold gmach at h
    simp only at h
    rw [List.getElem?_map] at h
    obtain ⟨u, hu, rfl⟩ := Option.map_eq_some_iff.1 h
    obtain ⟨hu1, hu2⟩ := List.getElem?_eq_some_iff.1 hu
    have e : u = t := by simpa using hu2.symm
    subst e
    exact lcalls_at (by decide) _ nx c hc
  q0 := .inl rfl
  sec := fun T ws hQ hl => by
    rw [gmach_wl] at hl
    show (vstep (gcode (2 * n)) T ws).1.err = 0 ∧ (vstep (gcode (2 * n)) T ws).2.length = ws.length ∧ (∀ i : Nat, i < 2 * n → vget (vstep (gcode (2 * n)) T ws).2 (i : Int) = vget ws (i : Int)) ∧ ((vstep (gcode (2 * n)) T ws).1.over = false → GQ (vstep (gcode (2 * n)) T ws).1)
    rcases hQ with rfl | rfl | ⟨v, rfl⟩ | ⟨v, rfl⟩
    · rw [g_0]; exact ⟨rfl, rfl, fun _ _ => rfl, fun _ => .inr (.inl rfl)⟩
    · rw [g_1 (by omega) (by omega)]; exact ⟨rfl, rfl, fun _ _ => rfl, fun _ => .inr (.inr (.inl ⟨_, rfl⟩))⟩
    · rw [g_2]; exact ⟨rfl, rfl, fun _ _ => rfl, fun _ => .inr (.inr (.inr ⟨_, rfl⟩))⟩
    · rw [g_3 (by omega) (by omega)]
      refine ⟨rfl, by show (vset ws _ v).length = _; unfold vset; rw [List.length_set], fun i hi => vget_vset_neL _ _ (by omega), fun h => by cases h⟩
  wl := by rw [gmach_wl]; omega
  w0 := fun i hi => by
    unfold gmach vget
    simp only
    rw [List.getD_eq_getElem?_getD, List.getElem?_append_left (by rw [List.length_replicate]; omega), List.getElem?_replicate]
    split <;> rfl
theorem lock_keeps0 {n : Nat} (h1 : 1 ≤ n) (h4 : n ≤ 4) : ∃ A, LockI n (gmach n).words.length GQ 0 (pinit (gmach n)).ths (gmach n).words A := by
  have M := gmach_lm h1 h4
  refine ⟨fun _ => .idle, GInv.init n, rfl, ⟨M.wl, fun t ht => M.w0 t (by omega), fun t ht => M.w0 (n + t) (by omega)⟩, by unfold pinit; rw [List.length_replicate]; exact M.len, fun t p hp => ?_⟩
  unfold pinit at hp
  simp only [List.getElem?_replicate] at hp
  split at hp
  · injection hp with hp; subst hp; exact .inl ⟨rfl, rfl⟩
  · cases hp
/-- the word is as many as have ended -/
structure GS (n i : Nat) (ths : List PT) (ws : List Int) (ds : List Dg) : Prop where
  word : vget ws ((2 * n : Nat) : Int) = (dE ds : Int)
  most : dE ds ≤ i
  sec : ∀ (t nx : Nat) (T : Th), ths[t]? = some ⟨nx, some (2, T)⟩ → GW (dE ds : Int) T
theorem guard_keeps {n : Nat} (h1 : 1 ≤ n) (h4 : n ≤ 4) {l : List Nat} (hl : l.length ≤ 6000) : PKeeps (gmach n) l (fun i ths ws ds => (∃ A, LockI n (gmach n).words.length GQ i ths ws A) ∧ GS n i ths ws ds) where
  idle := fun i s t hi hD h hn => ⟨(lock_keeps (gmach_lm h1 h4) hl).idle i s t hi hD h.1 hn, h.2.word, Nat.le_succ_of_le h.2.most, h.2.sec⟩
  begin_ := by
    rintro i s t nx calls c hi hD ⟨h, g⟩ hn hc hcc
    have hcall := (gmach_lm h1 h4).call t nx calls c hc hcc
    refine ⟨(lock_keeps (gmach_lm h1 h4) hl).begin_ i s t nx calls c hi hD h hn hc hcc, ?_, ?_, ?_⟩
    · rw [dE_snoc _ _ rfl]; exact g.word
    · rw [dE_snoc _ _ rfl]; exact g.most
    · rw [dE_snoc _ _ rfl]
      intro u nx' T hu
      rcases get_set hu with ⟨rfl, e⟩ | ⟨_, hu⟩
      · injection e with e1 e2
        injection e2 with e2
        injection e2 with e2 e3
        have hargs : c.args = [] := by
          unfold lcallAt at hcall
          split at hcall
          · rw [hcall] at e2; cases e2
          · split at hcall
            · rw [hcall]
            · rw [hcall] at e2; cases e2
        rw [e3, ← e2, hargs]
        exact .inl rfl
      · exact g.sec u nx' T hu
  cont := by
    rintro i s t nx ci T hi hD ⟨h, g⟩ hn hov
    refine ⟨(lock_keeps (gmach_lm h1 h4) hl).cont i s t nx ci T hi hD h hn hov, ?_⟩
    obtain ⟨A, h⟩ := h
    have hwl := h.wlen
    rw [gmach_wl] at hwl
    have hi6 : i ≤ 6000 := by have := (List.getElem?_eq_some_iff.1 hi).1; omega
    have htn : t < n := by have := (List.getElem?_eq_some_iff.1 hn).1; have := h.len; omega
    have h0 := h.sh t _ hn
    unfold TSh at h0
    simp only at h0
    have hmost : dE (doings s.evs) ≤ i + 1 := Nat.le_succ_of_le g.most
    rcases h0 with ⟨a1, rfl, a3⟩ | ⟨a1, rfl, a3, a4⟩ | ⟨a1, rfl, a3, a4⟩
    · obtain ⟨a', E⟩ := enter_step h1 h4 htn hi6 h.g h.w a3
      have hf := E.far (2 * n) (Nat.le_refl _)
      refine ⟨hf.trans g.word, hmost, fun u nx' T' hu => ?_⟩
      rcases get_set hu with ⟨rfl, e⟩ | ⟨_, hu⟩
      · injection e with e1 e2; injection e2 with e2; injection e2 with e2 e3; cases e2
      · exact g.sec u nx' T' hu
    · have hw := g.sec t nx T hn
      show GS n (i + 1) (s.ths.set t ⟨nx, some (2, (vstep (gcode (2 * n)) T s.words).1)⟩) (vstep (gcode (2 * n)) T s.words).2 (doings s.evs)
      have hov : (vstep (gcode (2 * n)) T s.words).1.over = false := hov
      have key : (vstep (gcode (2 * n)) T s.words).2 = s.words ∧ GW (dE (doings s.evs) : Int) (vstep (gcode (2 * n)) T s.words).1 := by
        rcases hw with rfl | rfl | rfl | rfl
        · rw [g_0]; exact ⟨rfl, .inr (.inl rfl)⟩
        · rw [g_1 (by omega) (by omega), g.word]; exact ⟨rfl, .inr (.inr (.inl rfl))⟩
        · rw [g_2, lwrap (by omega) (by omega)]; exact ⟨rfl, .inr (.inr (.inr rfl))⟩
        · rw [g_3 (by omega) (by omega)] at hov; cases hov
      refine ⟨by rw [key.1]; exact g.word, hmost, fun u nx' T' hu => ?_⟩
      rcases get_set hu with ⟨rfl, e⟩ | ⟨_, hu⟩
      · injection e with e1 e2; injection e2 with e2; injection e2 with e2 e3
        rw [e3]; exact key.2
      · exact g.sec u nx' T' hu
    · subst a3
      obtain ⟨mm, ha⟩ := a4
      have hov : (vstep (lleaveCode n) ⟨(t : Int) :: List.replicate 23 0, 0, [], 0, false⟩ s.words).1.over = false := hov
      rw [(leave_step h1 h4 htn h.w ha).1] at hov
      cases hov
  fin_ := by
    rintro i s t nx ci T k0 d0 hi hD ⟨h, g⟩ hn hov hk0 ht0 hdc0 he0 htold
    obtain ⟨f1, f2⟩ := (lock_keeps (gmach_lm h1 h4) hl).fin_ i s t nx ci T k0 d0 hi hD h hn hov hk0 ht0 hdc0 he0 htold
    refine ⟨⟨f1, ?_⟩, f2⟩
    clear f1 f2
    obtain ⟨A, h⟩ := h
    have hwl := h.wlen
    rw [gmach_wl] at hwl
    have hi6 : i ≤ 6000 := by have := (List.getElem?_eq_some_iff.1 hi).1; omega
    have htn : t < n := by have := (List.getElem?_eq_some_iff.1 hn).1; have := h.len; omega
    have h0 := h.sh t _ hn
    unfold TSh at h0
    simp only at h0
    have hmost : dE (doings s.evs) ≤ i := g.most
    have hds := dE_set (d' := { d0 with e := some i, told := (vstep ((gmach n).codes.getD ci []) T s.words).1.told }) hk0 he0 rfl rfl
    generalize (doings s.evs).set k0 { d0 with e := some i, told := (vstep ((gmach n).codes.getD ci []) T s.words).1.told } = ds' at hds ⊢
    have hpos : 1 ≤ nx := hD.pos t _ hn rfl
    rcases h0 with ⟨a1, rfl, a3⟩ | ⟨a1, rfl, a3, a4⟩ | ⟨a1, rfl, a3, a4⟩
    · obtain ⟨a', E⟩ := enter_step h1 h4 htn hi6 h.g h.w a3
      have hf := E.far (2 * n) (Nat.le_refl _)
      have hc : (d0.c % 3 == 1) = false := by rw [hdc0]; simp; omega
      rw [hc] at hds
      have hE : dE ds' = dE (doings s.evs) := hds
      refine ⟨hf.trans (g.word.trans (congrArg (fun x : Nat => (x : Int)) hE.symm)), by rw [hE]; exact Nat.le_succ_of_le hmost, fun u nx' T' hu => ?_⟩
      rcases get_set hu with ⟨rfl, e⟩ | ⟨_, hu⟩
      · injection e with e1 e2; cases e2
      · rw [hE]; exact g.sec u nx' T' hu
    · have hw := g.sec t nx T hn
      obtain ⟨mm, ha⟩ := a4
      have hov : (vstep (gcode (2 * n)) T s.words).1.over = true := hov
      have hc : (d0.c % 3 == 1) = true := by rw [hdc0]; simp; omega
      rw [hc] at hds
      have hE : dE ds' = dE (doings s.evs) + 1 := hds
      have key : (vstep (gcode (2 * n)) T s.words).2 = vset s.words ((2 * n : Nat) : Int) ((dE (doings s.evs) : Int) + 1) := by
        rcases hw with rfl | rfl | rfl | rfl
        · rw [g_0] at hov; cases hov
        · rw [g_1 (by omega) (by omega)] at hov; cases hov
        · rw [g_2] at hov; cases hov
        · rw [g_3 (by omega) (by omega)]
      refine ⟨?_, by rw [hE]; omega, fun u nx' T' hu => ?_⟩
      · show vget (vstep (gcode (2 * n)) T s.words).2 _ = _
        rw [key, vget_vset_eqL _ _ (by omega) (by omega), hE]
        show (dE (doings s.evs) : Int) + 1 = ((dE (doings s.evs) + 1 : Nat) : Int)
        omega
      · rcases get_set hu with ⟨rfl, e⟩ | ⟨hne, hu⟩
        · injection e with e1 e2; cases e2
        · exfalso
          have hs := h.sh u _ hu
          have hun : u < n := by have := (List.getElem?_eq_some_iff.1 hu).1; have := h.len; omega
          unfold TSh at hs
          simp only at hs
          rcases hs with ⟨_, c1, _⟩ | ⟨_, _, _, m', ha'⟩ | ⟨_, c1, _⟩
          · cases c1
          · exact h.g.one hun htn hne ha' ha
          · cases c1
    · subst a3
      obtain ⟨mm, ha⟩ := a4
      obtain ⟨e1, e2⟩ := leave_step h1 h4 htn h.w ha
      have hc : (d0.c % 3 == 1) = false := by rw [hdc0]; simp; omega
      rw [hc] at hds
      have hE : dE ds' = dE (doings s.evs) := hds
      refine ⟨?_, by rw [hE]; exact Nat.le_succ_of_le hmost, fun u nx' T' hu => ?_⟩
      · show vget (vstep (lleaveCode n) ⟨(t : Int) :: List.replicate 23 0, 0, [], 0, false⟩ s.words).2 _ = _
        rw [e1]
        show vget (vset s.words ((n + t : Nat) : Int) 0) _ = _
        rw [vget_vset_neL _ _ (by omega), hE]
        exact g.word
      · rcases get_set hu with ⟨rfl, e⟩ | ⟨_, hu⟩
        · injection e with e1 e2; cases e2
        · rw [hE]; exact g.sec u nx' T' hu
/-- nothing is lost, and one at most is at it -/
theorem guard_play {n : Nat} (h1 : 1 ≤ n) (h4 : n ≤ 4) {l : List Nat} (hl : l.length ≤ 6000) :
    (play (gmach n) l).words.length = 2 * n + 1 ∧ (play (gmach n) l).words[2 * n]? = some (kE (play (gmach n) l).evs : Int) ∧ kB (play (gmach n) l).evs ≤ kE (play (gmach n) l).evs + 1 ∧ NoErr (play (gmach n) l).evs := by
  obtain ⟨⟨⟨A, L⟩, g⟩, hN⟩ := (guard_keeps h1 h4 hl).play ⟨(lock_keeps0 h1 h4), by
    show vget (gmach n).words _ = ((0 : Nat) : Int)
    show (List.replicate (2 * n) (0 : Int) ++ [0]).getD (2 * n) 0 = 0
    rw [List.getD_eq_getElem?_getD, List.getElem?_append_right (by simp)]
    simp, Nat.le_refl _, fun t nx T hu => by
    unfold pinit at hu
    simp only [List.getElem?_replicate] at hu
    split at hu
    · injection hu with hu; injection hu with _ hu; cases hu
    · cases hu⟩
  have hD := play_di (gmach n) l
  obtain ⟨k1, k2⟩ := k_doings (fun j k d d' hj hk ht hc => hD.uniq j k d d' hj hk ht hc) (play_fin (gmach n) l)
  have hwl := L.wlen
  rw [gmach_wl] at hwl
  refine ⟨hwl, ?_, ?_, hN⟩
  · have hg := g.word
    rw [k1]
    unfold vget at hg
    rw [List.getD_eq_getElem?_getD] at hg
    have hlt : 2 * n < (play (gmach n) l).words.length := by omega
    rw [show ((2 * n : Nat) : Int).toNat = 2 * n by omega, List.getElem?_eq_getElem hlt] at hg
    rw [List.getElem?_eq_getElem hlt]
    exact congrArg some hg
  · rw [k1, k2, dB_dE]
    have := filter_one (P := fun d => d.c % 3 == 1 && d.e.isNone) (ds := doings (play (gmach n) l).evs) (fun j k d d' hj hk hp hp' => by
      have key : ∀ {j : Nat} {d : Dg}, (doings (play (gmach n) l).evs)[j]? = some d → (d.c % 3 == 1 && d.e.isNone) = true → ∃ p, (play (gmach n) l).ths[d.t]? = some p ∧ d.c + 1 = p.next ∧ d.t < n ∧ ∃ mm, A d.t = .wait n mm := by
        intro j d hj hp
        simp only [Bool.and_eq_true, beq_iff_eq] at hp
        obtain ⟨hp1, hp2⟩ := hp
        have he : d.e = none := by simpa using hp2
        obtain ⟨p, hpp, _, hx⟩ := hD.lt j d hj
        obtain ⟨y1, y2⟩ := hx.1 he
        have hs := L.sh _ p hpp
        have hlt : d.t < n := by have := (List.getElem?_eq_some_iff.1 hpp).1; have := L.len; omega
        refine ⟨p, hpp, y2, hlt, ?_⟩
        obtain ⟨nx, cur⟩ := p
        cases cur with
        | none => cases y1
        | some x =>
          obtain ⟨ci, T⟩ := x
          unfold TSh at hs
          simp only at hs y2
          rcases hs with ⟨c1, _⟩ | ⟨_, _, _, c2⟩ | ⟨c1, _⟩
          · omega
          · exact c2
          · omega
      obtain ⟨p, q1, q2, q3, m1, q4⟩ := key hj hp
      obtain ⟨p', r1, r2, r3, m2, r4⟩ := key hk hp'
      have ht : d.t = d'.t := Classical.byContradiction fun hne => L.g.one q3 r3 hne q4 r4
      refine hD.uniq j k d d' hj hk ht ?_
      rw [ht, r1] at q1
      injection q1 with q1
      subst q1
      omega)
    omega
end
end Go.Proofs.YtbcjgnigdddlkaaDoor
