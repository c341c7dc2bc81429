/-
  Who is inside at a time, in a run of threads that come in, stay and leave: plain laws for locks of every kind.
-/
import Derived.Test.YtabmkjokeeakdaaDoorPlayInd
import Derived.Test.YtabmkjokeeakdaaDoorLeaves
namespace Go.Proofs.YtabmkjokeeakdaaDoor
open Go.RowKit
set_option linter.unusedVariables false

/-- the calls of a run's first T steps, beside those of the whole run -/
def DPre (T : Nat) (ds ds' : List Dg) : Prop :=
  ds.length ≤ ds'.length ∧ ∀ (k : Nat) (d' : Dg), ds'[k]? = some d' → (ds.length ≤ k ∧ T ≤ d'.b ∧ ∀ e, d'.e = some e → T ≤ e) ∨ (∃ d, ds[k]? = some d ∧ d.b = d'.b ∧ d.t = d'.t ∧ d.c = d'.c ∧ (d' = d ∨ (d.e = none ∧ ∃ e, d'.e = some e ∧ T ≤ e)))
theorem DPre.refl (T : Nat) (ds : List Dg) : DPre T ds ds := ⟨Nat.le_refl _, fun k d' h => .inr ⟨d', h, rfl, rfl, rfl, .inl rfl⟩⟩
theorem DPre.step {T : Nat} {ds ds' : List Dg} (h : DPre T ds ds') {ev : Ev} (he : T ≤ ev.step) : DPre T ds (dstep ds' ev) := by
  unfold dstep
  split
  · refine ⟨by rw [List.length_map]; exact h.1, fun k d' hk => ?_⟩
    rw [List.getElem?_map] at hk
    obtain ⟨d0, hd0, hd'⟩ := Option.map_eq_some_iff.1 hk
    subst hd'
    split
    · rename_i ho
      rcases h.2 k d0 hd0 with ⟨a, b, c⟩ | ⟨d, a, b, c, e, f⟩
      · exact .inl ⟨a, b, fun e he' => by injection he' with he'; omega⟩
      · refine .inr ⟨d, a, b, c, e, .inr ⟨?_, ev.step, rfl, he⟩⟩
        rcases f with f | ⟨f, _⟩
        · subst f
          simp only [dopen, Bool.and_eq_true, Option.isNone_iff_eq_none] at ho
          exact ho.2
        · exact f
    · exact h.2 k d0 hd0
  · refine ⟨by rw [List.length_append]; have := h.1; omega, fun k d' hk => ?_⟩
    rcases get_snoc hk with hk | ⟨e1, e2⟩
    · exact h.2 k d' hk
    · subst e1 e2; exact .inl ⟨h.1, he, fun e h => by cases h⟩
theorem DPre.evs {T : Nat} {ds : List Dg} : ∀ (u : List Ev) (ds' : List Dg), (∀ e ∈ u, T ≤ e.step) → DPre T ds ds' → DPre T ds (u.foldl dstep ds')
  | [], _, _, h => h
  | e :: u, ds', he, h => DPre.evs u _ (fun x hx => he x (List.mem_cons_of_mem _ hx)) (h.step (he e List.mem_cons_self))
theorem play_pre (m : Mach) (l : List Nat) (T : Nat) (hT : T ≤ l.length) : DPre T (doings (play m (l.take T)).evs) (doings (play m l).evs) := by
  obtain ⟨u, hu, h⟩ := play_parts m l T hT
  rw [hu]; unfold doings; rw [List.foldl_append]; exact DPre.evs u _ h (DPre.refl _ _)
/-- a call that began within the first steps is there already -/
theorem DPre.back {T : Nat} {ds ds' : List Dg} (h : DPre T ds ds') {k : Nat} {d : Dg} (hk : ds[k]? = some d) : ∃ d', ds'[k]? = some d' ∧ d.b = d'.b ∧ d.t = d'.t ∧ d.c = d'.c := by
  have hl := (List.getElem?_eq_some_iff.1 hk).1
  have hl' : k < ds'.length := Nat.lt_of_lt_of_le hl h.1
  refine ⟨ds'[k], List.getElem?_eq_getElem hl', ?_⟩
  rcases h.2 k _ (List.getElem?_eq_getElem hl') with ⟨a, _⟩ | ⟨d0, a, b, c, e, _⟩
  · omega
  · rw [hk] at a; injection a with a; subst a; exact ⟨b, c, e⟩
/-- a call that ended within the first T steps, as the first T steps tell it -/
theorem DPre.ended {T : Nat} {ds ds' : List Dg} (h : DPre T ds ds') {k e : Nat} {d : Dg} (hk : ds'[k]? = some d) (he : d.e = some e) (hT : e < T) : ds[k]? = some d := by
  rcases h.2 k d hk with ⟨_, _, c⟩ | ⟨d0, a, _, _, _, f⟩
  · have := c e he; omega
  · rcases f with f | ⟨_, e', h1, h2⟩
    · rw [f]; exact a
    · rw [he] at h1; injection h1 with h1; omega
theorem leaves_eq {i : Nat} {s : PS} (h : DI i s) {k : Nat} {d x : Dg} (hx : (doings s.evs)[k]? = some x) (he : x.t = d.t ∧ x.c = d.c + 2) : leavesOf (doings s.evs) d = x.b := by
  refine leaves_hit (k := k) (fun j y hj hy hc => ?_) hx he
  have := h.uniq j k y x hy hx (by rw [hc.1, he.1]) (by rw [hc.2, he.2])
  omega
/-- a call that came in ahead of T; who came so leaves behind T -/
def isin (ds : List Dg) (T : Nat) (d : Dg) : Bool := d.c % 3 == 0 && (match d.e with | some e => decide (e < T) | none => false) && decide (T < leavesOf ds d)
theorem isin_iff {ds : List Dg} {T : Nat} {d : Dg} : isin ds T d = true ↔ d.c % 3 = 0 ∧ (∃ e, d.e = some e ∧ e < T) ∧ T < leavesOf ds d := by
  unfold isin
  cases h : d.e with
  | none => simp
  | some e => simp [and_assoc]
/-- a thread whose call came in and that has not left is just there -/
theorem inside_thread {m : Mach} {l : List Nat} {T : Nat} (hT : T ≤ l.length) {k : Nat} {d : Dg} (hk : (doings (play m l).evs)[k]? = some d) (hin : isin (doings (play m l).evs) T d = true) :
    ∃ p, (play m (l.take T)).ths[d.t]? = some p ∧ ((p.cur = none ∧ p.next = d.c + 1) ∨ p.next = d.c + 2) := by
  obtain ⟨_, ⟨e, he, heT⟩, hl⟩ := isin_iff.1 hin
  have hP := play_pre m l T hT
  have hk0 := hP.ended hk he heT
  have D0 := play_di m (l.take T)
  have D1 := play_di m l
  obtain ⟨p, hp, hlt, hiff⟩ := D0.lt k d hk0
  refine ⟨p, hp, ?_⟩
  have hle : p.next ≤ d.c + 2 := by
    rcases Nat.lt_or_ge (d.c + 2) p.next with h | h
    · obtain ⟨k2, x, hx, hxt, hxc⟩ := D0.ths d.t p hp (d.c + 2) h
      have hb := (D0.time k2 x hx).1
      rw [List.length_take] at hb
      obtain ⟨x', hx', b1, b2, b3⟩ := hP.back hx
      have := leaves_eq D1 hx' (d := d) ⟨by rw [← b2, hxt], by rw [← b3, hxc]⟩
      omega
    · exact h
  rcases Nat.lt_or_ge p.next (d.c + 2) with h | h
  · refine .inl ⟨?_, by omega⟩
    cases hc : p.cur with
    | none => rfl
    | some x => exact absurd (hiff.2 ⟨by rw [hc]; rfl, by omega⟩) (by rw [he]; simp)
  · exact .inr (by omega)
/-! ### how many -/
def b2n (b : Bool) : Nat := if b then 1 else 0
/-- how many, by place and value -/
def cntI {α : Type} (f : Nat → α → Bool) : Nat → List α → Nat
  | _, [] => 0
  | k, x :: l => b2n (f k x) + cntI f (k + 1) l
theorem cntI_set {α : Type} (f : Nat → α → Bool) : ∀ (l : List α) (k n : Nat) (p q : α), l[n]? = some p → cntI f k (l.set n q) + b2n (f (k + n) p) = cntI f k l + b2n (f (k + n) q)
  | [], k, n, p, q, h => by simp at h
  | x :: l, k, 0, p, q, h => by
    simp at h; subst h
    simp only [List.set_cons_zero, cntI, Nat.add_zero]; omega
  | x :: l, k, n + 1, p, q, h => by
    have ih := cntI_set f l (k + 1) n p q (by simpa using h)
    simp only [List.set_cons_succ, cntI]
    rw [show k + (n + 1) = k + 1 + n by omega]
    omega
theorem cntI_set0 {α : Type} (f : Nat → α → Bool) {l : List α} {n : Nat} {p : α} (q : α) (h : l[n]? = some p) : cntI f 0 (l.set n q) + b2n (f n p) = cntI f 0 l + b2n (f n q) := by
  have := cntI_set f l 0 n p q h
  rwa [Nat.zero_add] at this
theorem cntI_snoc {α : Type} (f : Nat → α → Bool) : ∀ (l : List α) (k : Nat) (p : α), cntI f k (l ++ [p]) = cntI f k l + b2n (f (k + l.length) p)
  | [], k, p => by simp [cntI]
  | x :: l, k, p => by
    rw [List.cons_append, cntI, cntI, cntI_snoc f l (k + 1) p, List.length_cons, show k + 1 + l.length = k + (l.length + 1) by omega]
    omega
theorem cntI_zero {α : Type} (f : Nat → α → Bool) : ∀ (l : List α) (k : Nat), cntI f k l = 0 → ∀ (n : Nat) (p : α), l[n]? = some p → f (k + n) p = false
  | [], k, h, n, p, hp => by simp at hp
  | x :: l, k, h, 0, p, hp => by
    simp at hp; subst hp
    unfold cntI b2n at h
    cases hf : f k x with
    | false => rfl
    | true => rw [hf] at h; simp at h
  | x :: l, k, h, n + 1, p, hp => by
    have := cntI_zero f l (k + 1) (by unfold cntI at h; omega) n p (by simpa using hp)
    rw [show k + (n + 1) = k + 1 + n by omega]; exact this
theorem nodup_at {α β : Type} {P : α → Bool} {f : α → β} : ∀ (l : List α), (∀ (j k : Nat) (a b : α), l[j]? = some a → l[k]? = some b → P a = true → P b = true → f a = f b → j = k) → ((l.filter P).map f).Nodup
  | [], _ => by simp
  | x :: l, h => by
    have ih := nodup_at l fun j k a b ha hb pa pb e => by
      have := h (j + 1) (k + 1) a b (by simpa using ha) (by simpa using hb) pa pb e
      omega
    rw [List.filter_cons]
    split
    · rename_i hp
      rw [List.map_cons, List.nodup_cons]
      refine ⟨fun hm => ?_, ih⟩
      obtain ⟨y, hy, e⟩ := List.mem_map.1 hm
      obtain ⟨hy1, hy2⟩ := List.mem_filter.1 hy
      obtain ⟨k, hk⟩ := List.getElem?_of_mem hy1
      have := h 0 (k + 1) x y rfl (by simpa using hk) hp hy2 e.symm
      omega
    · exact ih
theorem nodup_count {α : Type} (f : Nat → α → Bool) : ∀ (n : Nat) (l : List α) (ts : List Nat), l.length = n → ts.Nodup → (∀ t ∈ ts, ∃ p, l[t]? = some p ∧ f t p = true) → ts.length ≤ cntI f 0 l
  | 0, l, ts, hl, hn, h => by
    have : l = [] := List.eq_nil_of_length_eq_zero hl
    subst this
    cases ts with
    | nil => simp
    | cons t ts => obtain ⟨p, hp, _⟩ := h t List.mem_cons_self; simp at hp
  | n + 1, l, ts, hl, hn, h => by
    obtain ⟨l', p, rfl⟩ : ∃ l' p, l = l' ++ [p] := ⟨l.dropLast, l.getLast (by intro e; rw [e] at hl; simp at hl), (List.dropLast_concat_getLast _).symm⟩
    have hl' : l'.length = n := by simpa using hl
    have ih := nodup_count f n l' (ts.erase n) hl' (hn.erase n) (fun t ht => by
      obtain ⟨hne, hm⟩ := (List.Nodup.mem_erase_iff hn).1 ht
      obtain ⟨q, hq, hf⟩ := h t hm
      rcases get_snoc hq with hq | ⟨e, _⟩
      · exact ⟨q, hq, hf⟩
      · omega)
    rw [cntI_snoc, hl', Nat.zero_add]
    by_cases hm : n ∈ ts
    · obtain ⟨q, hq, hf⟩ := h n hm
      rw [List.getElem?_append_right (by omega), hl', Nat.sub_self] at hq
      injection hq with hq
      subst hq
      have e1 : b2n (f n p) = 1 := by rw [hf]; rfl
      have := List.length_erase_of_mem hm
      have : 0 < ts.length := List.length_pos_of_mem hm
      omega
    · rw [List.erase_of_not_mem hm] at ih
      omega
/-- those who are inside are no more than those who hold -/
theorem inside_count {m : Mach} {l : List Nat} {T : Nat} (hT : T ≤ l.length) {P : Dg → Bool} (hP : ∀ d, P d = true → isin (doings (play m l).evs) T d = true) (hold : Nat → PT → Bool)
    (hh : ∀ (d : Dg) (p : PT), P d = true → (play m (l.take T)).ths[d.t]? = some p → (p.cur = none ∧ p.next = d.c + 1) ∨ p.next = d.c + 2 → hold d.t p = true) :
    ((doings (play m l).evs).filter P).length ≤ cntI hold 0 (play m (l.take T)).ths := by
  have D1 := play_di m l
  rw [← List.length_map (f := fun d : Dg => d.t)]
  refine nodup_count hold _ _ _ rfl (nodup_at _ fun j k a b ha hb pa pb e => ?_) fun t ht => ?_
  · obtain ⟨p, hp, h1⟩ := inside_thread hT ha (hP a pa)
    obtain ⟨q, hq, h2⟩ := inside_thread hT hb (hP b pb)
    rw [← e, hp] at hq
    injection hq with hq
    subst hq
    have c1 := (isin_iff.1 (hP a pa)).1
    have c2 := (isin_iff.1 (hP b pb)).1
    exact D1.uniq j k a b ha hb e (by omega)
  · obtain ⟨d, hd, rfl⟩ := List.mem_map.1 ht
    obtain ⟨hd1, hd2⟩ := List.mem_filter.1 hd
    obtain ⟨k, hk⟩ := List.getElem?_of_mem hd1
    obtain ⟨p, hp, h1⟩ := inside_thread hT hk (hP d hd2)
    exact ⟨p, hp, hh d p hd2 hp h1⟩
/-! ### calls are numbered below how many there are -/
theorem pstep_nx (m : Mach) (i n : Nat) (s : PS) (h : ∀ (j : Nat) (p : PT) (calls : List VCall), s.ths[j]? = some p → m.threads[j]? = some calls → p.next ≤ calls.length) :
    ∀ (j : Nat) (p : PT) (calls : List VCall), (pstep m i n s).ths[j]? = some p → m.threads[j]? = some calls → p.next ≤ calls.length := by
  unfold pstep
  split
  · rename_i p calls hn hc
    have hq : (pbeg m i n calls p).1.next ≤ calls.length := by
      have h0 := h n p calls hn hc
      unfold pbeg
      split
      · exact h0
      · split
        · exact h0
        · rename_i c hcc
          have := (List.getElem?_eq_some_iff.1 hcc).1
          exact this
    have key : ∀ (x : PT), x.next ≤ calls.length → ∀ (j : Nat) (p : PT) (cs : List VCall), (s.ths.set n x)[j]? = some p → m.threads[j]? = some cs → p.next ≤ cs.length := by
      intro x hx j p' cs hj hcs
      rcases get_set hj with ⟨e1, e2⟩ | ⟨_, hj'⟩
      · subst e1 e2
        rw [hc] at hcs; injection hcs with hcs; subst hcs; exact hx
      · exact h j p' cs hj' hcs
    unfold pact
    split
    · exact h
    · split
      · exact key _ hq
      · exact key _ hq
  · exact h
theorem prun_nx (m : Mach) : ∀ (l : List Nat) (i : Nat) (s : PS), (∀ (j : Nat) (p : PT) (calls : List VCall), s.ths[j]? = some p → m.threads[j]? = some calls → p.next ≤ calls.length) →
    ∀ (j : Nat) (p : PT) (calls : List VCall), (prun m i l s).ths[j]? = some p → m.threads[j]? = some calls → p.next ≤ calls.length
  | [], _, _, h => h
  | n :: l, i, s, h => prun_nx m l (i + 1) _ (pstep_nx m i n s h)
theorem prun_ths (m : Mach) : ∀ (l : List Nat) (i : Nat) (s : PS), (prun m i l s).ths.length = s.ths.length
  | [], _, _ => rfl
  | n :: l, i, s => by rw [prun, prun_ths m l (i + 1), pstep_len]
theorem play_ths (m : Mach) (l : List Nat) : (play m l).ths.length = m.threads.length := by
  unfold play; rw [prun_ths]; simp [pinit]
/-- a call's number -/
theorem play_c {m : Mach} {N : Nat} (hN : ∀ calls ∈ m.threads, calls.length ≤ N) (l : List Nat) {k : Nat} {d : Dg} (hk : (doings (play m l).evs)[k]? = some d) : d.c < N ∧ d.t < m.threads.length := by
  obtain ⟨p, hp, h1, _⟩ := (play_di m l).lt k d hk
  have hl := (List.getElem?_eq_some_iff.1 hp).1
  rw [play_ths] at hl
  obtain ⟨calls, hc⟩ : ∃ calls, m.threads[d.t]? = some calls := ⟨_, List.getElem?_eq_getElem hl⟩
  have := prun_nx m l 0 (pinit m) (fun j p calls hj _ => by
    simp only [pinit] at hj
    rw [List.getElem?_replicate] at hj
    split at hj
    · injection hj with hj; rw [← hj]; exact Nat.zero_le _
    · cases hj) d.t p calls hp hc
  have h2 := hN calls (List.mem_of_getElem? hc)
  exact ⟨by omega, hl⟩
end Go.Proofs.YtabmkjokeeakdaaDoor
