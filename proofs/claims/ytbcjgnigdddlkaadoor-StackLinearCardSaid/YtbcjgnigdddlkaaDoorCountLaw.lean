/-
  Package count under whatever schedule: plain laws.
-/
import Derived.Test.YtbcjgnigdddlkaaDoorTellLaw
namespace Go.Proofs.YtbcjgnigdddlkaaDoor
open Go.RowKit
set_option linter.unusedVariables false

def callOf (m : Mach) (n c : Nat) : Option VCall := (m.threads[n]?).bind fun l => l[c]?
def argOf (m : Mach) (d : Dg) : Int := match callOf m d.t d.c with | some c => c.args.getD 0 0 | none => 0
def OkCall (c : VCall) : Prop := c = ⟨1, []⟩ ∨ ∃ a : Int, c = ⟨0, [a]⟩ ∧ 1 ≤ a ∧ a ≤ 5
/-- a machine whose calls add a little, or get -/
structure CntM (m : Mach) : Prop where
  ws : m.words = [0]
  c0 : m.codes.getD 0 [] = addCode
  c1 : m.codes.getD 1 [] = getCode
  call : ∀ (n : Nat) (calls : List VCall) (nx : Nat) (c : VCall), m.threads[n]? = some calls → calls[nx]? = some c → OkCall c
/-- where a thread may be in its call, when the number is v -/
def TF (v : Int) (c : VCall) (ci : Nat) (t : Th) : Prop :=
  (c = ⟨1, []⟩ ∧ ci = 1 ∧ (t = getTh 0 0 ∨ ∃ o, t = getTh 1 o ∧ 0 ≤ o ∧ o ≤ v)) ∨
  (∃ a : Int, c = ⟨0, [a]⟩ ∧ 1 ≤ a ∧ a ≤ 5 ∧ ci = 0 ∧ ((∃ o z, t = addTh 0 a o z) ∨ (∃ o z, t = addTh 1 a o z ∧ 0 ≤ o ∧ o ≤ v) ∨ (∃ o, t = addTh 2 a o (o + a) ∧ 0 ≤ o ∧ o ≤ v) ∨ (∃ o, t = addTh 3 a o 0) ∨ (∃ o, t = addTh 3 a o 1 ∧ 0 ≤ o ∧ o + a ≤ v) ∨ (∃ o, t = addTh 4 a o 1 ∧ 0 ≤ o ∧ o + a ≤ v)))
theorem TF.mono {v v' : Int} {c : VCall} {ci : Nat} {t : Th} (h : TF v c ci t) (hv : v ≤ v') : TF v' c ci t := by
  rcases h with ⟨a, b, h⟩ | ⟨a, h1, h2, h3, h4, h⟩
  · refine .inl ⟨a, b, ?_⟩
    rcases h with h | ⟨o, h, p, q⟩
    · exact .inl h
    · exact .inr ⟨o, h, p, by omega⟩
  · refine .inr ⟨a, h1, h2, h3, h4, ?_⟩
    rcases h with h | ⟨o, z, h, p, q⟩ | ⟨o, h, p, q⟩ | h | ⟨o, h, p, q⟩ | ⟨o, h, p, q⟩
    · exact .inl h
    · exact .inr (.inl ⟨o, z, h, p, by omega⟩)
    · exact .inr (.inr (.inl ⟨o, h, p, by omega⟩))
    · exact .inr (.inr (.inr (.inl h)))
    · exact .inr (.inr (.inr (.inr (.inl ⟨o, h, p, by omega⟩))))
    · exact .inr (.inr (.inr (.inr (.inr ⟨o, h, p, by omega⟩))))
/-! ### who has added, and to what -/
def addedT (t : Th) : Bool := decide (3 ≤ t.pc) && decide (t.regs.getD 3 0 = 1)
def thOf (ths : List PT) (n : Nat) : Option Th := (ths[n]?).bind fun p => p.cur.map (·.2)
def addedB (ths : List PT) (d : Dg) : Bool := match d.e with | some _ => true | none => (match thOf ths d.t with | some t => addedT t | none => false)
def oldOf (ths : List PT) (d : Dg) : Int := match d.e with | some _ => d.told.getD 0 0 | none => (match thOf ths d.t with | some t => t.regs.getD 1 0 | none => 0)
theorem thOf_ne {ths : List PT} {n j : Nat} (p : PT) (h : j ≠ n) : thOf (ths.set n p) j = thOf ths j := by
  unfold thOf; rw [List.getElem?_set, if_neg (fun e => h e.symm)]
theorem thOf_at {ths : List PT} {n : Nat} {p0 : PT} (hn : ths[n]? = some p0) (p : PT) : thOf (ths.set n p) n = p.cur.map (·.2) := by
  unfold thOf; rw [set_at hn]; rfl
theorem thOf_get {ths : List PT} {n nx ci : Nat} {t : Th} (hn : ths[n]? = some ⟨nx, some (ci, t)⟩) : thOf ths n = some t := by
  unfold thOf; rw [hn]; rfl
theorem added_frame {ths : List PT} {n : Nat} {d : Dg} (p : PT) (h : d.e = none → d.t ≠ n) : addedB (ths.set n p) d = addedB ths d ∧ oldOf (ths.set n p) d = oldOf ths d := by
  unfold addedB oldOf
  cases he : d.e with
  | some e => exact ⟨rfl, rfl⟩
  | none => simp only; rw [thOf_ne p (h he)]; exact ⟨rfl, rfl⟩
theorem added_own {ths : List PT} {d : Dg} {t : Th} (he : d.e = none) (ht : thOf ths d.t = some t) : addedB ths d = addedT t ∧ oldOf ths d = t.regs.getD 1 0 := by
  unfold addedB oldOf
  rw [he]; simp only; rw [ht]; exact ⟨rfl, rfl⟩
theorem added_done {ths : List PT} {d : Dg} {e : Nat} (he : d.e = some e) : addedB ths d = true ∧ oldOf ths d = d.told.getD 0 0 := by
  unfold addedB oldOf
  rw [he]; exact ⟨rfl, rfl⟩
/-- what a call has added -/
def con (m : Mach) (ths : List PT) (d : Dg) : Int := if addedB ths d then argOf m d else 0
theorem sum_set {f g : Dg → Int} : ∀ (ds : List Dg) (k : Nat) (d d' : Dg), ds[k]? = some d → (∀ (j : Nat) (x : Dg), ds[j]? = some x → j ≠ k → g x = f x) → ((ds.set k d').map g).sum = (ds.map f).sum - f d + g d'
  | [], k, d, d', hk, _ => by simp at hk
  | x :: ds, 0, d, d', hk, h => by
    simp only [List.getElem?_cons_zero, Option.some.injEq] at hk
    subst hk
    have e : ds.map g = ds.map f := List.map_congr_left fun y hy => by
      obtain ⟨i, hi⟩ := List.getElem?_of_mem hy
      exact h (i + 1) y (by rw [List.getElem?_cons_succ]; exact hi) (by omega)
    rw [List.set_cons_zero, List.map_cons, List.map_cons, List.sum_cons, List.sum_cons, e]
    omega
  | x :: ds, k + 1, d, d', hk, h => by
    rw [List.getElem?_cons_succ] at hk
    have ih := sum_set ds k d d' hk (fun j y hj hjk => h (j + 1) y (by rw [List.getElem?_cons_succ]; exact hj) (by omega))
    have e := h 0 x rfl (by omega)
    rw [List.set_cons_succ, List.map_cons, List.map_cons, List.sum_cons, List.sum_cons, ih, e]
    omega
structure KV (m : Mach) (i : Nat) (ths : List PT) (v : Int) (ds : List Dg) : Prop where
  v0 : 0 ≤ v ∧ v ≤ 5 * i
  sum : v = (ds.map (con m ths)).sum
  th : ∀ (n nx ci : Nat) (t : Th), ths[n]? = some ⟨nx, some (ci, t)⟩ → 1 ≤ nx ∧ ∃ c, callOf m n (nx - 1) = some c ∧ TF v c ci t
  call : ∀ (k : Nat) (d : Dg), ds[k]? = some d → ∃ c, callOf m d.t d.c = some c ∧ OkCall c
  told : ∀ (k : Nat) (d : Dg) (e : Nat), ds[k]? = some d → d.e = some e → ∃ o, d.told = [o] ∧ 0 ≤ o ∧ o ≤ v
  le : ∀ (k : Nat) (d : Dg), ds[k]? = some d → addedB ths d = true → 1 ≤ argOf m d → 0 ≤ oldOf ths d ∧ oldOf ths d + argOf m d ≤ v
  dis : ∀ (j k : Nat) (d d' : Dg), j ≠ k → ds[j]? = some d → ds[k]? = some d' → addedB ths d = true → addedB ths d' = true → 1 ≤ argOf m d → 1 ≤ argOf m d' → oldOf ths d + argOf m d ≤ oldOf ths d' ∨ oldOf ths d' + argOf m d' ≤ oldOf ths d
/-- a step of a thread within its call -/
theorem KV.own {m : Mach} {i n : Nat} {ths : List PT} {v : Int} {ds : List Dg} (h : KV m i ths v ds) {k0 : Nat} {d0 : Dg} {p0 : PT} (hk0 : ds[k0]? = some d0) (hn : ths[n]? = some p0) (ht0 : d0.t = n)
    (hown : ∀ (k : Nat) (d : Dg), ds[k]? = some d → k ≠ k0 → d.e = none → d.t ≠ n) (p' : PT) (d1 : Dg) (hd1 : d1.t = d0.t) (hc1 : d1.c = d0.c) (v' : Int) (hv : v ≤ v') (hv5 : v' ≤ 5 * (i + 1 : Nat))
    (hth : ∀ ci t, p'.cur = some (ci, t) → 1 ≤ p'.next ∧ ∃ c, callOf m n (p'.next - 1) = some c ∧ TF v' c ci t)
    (htold : ∀ e, d1.e = some e → ∃ o, d1.told = [o] ∧ 0 ≤ o ∧ o ≤ v')
    (hc : (v' = v ∧ addedB (ths.set n p') d1 = addedB ths d0 ∧ (addedB ths d0 = true → oldOf (ths.set n p') d1 = oldOf ths d0)) ∨ (addedB ths d0 = false ∧ addedB (ths.set n p') d1 = true ∧ oldOf (ths.set n p') d1 = v ∧ v' = v + argOf m d0) ∨ (v' = v ∧ argOf m d0 = 0)) :
    KV m (i + 1) (ths.set n p') v' (ds.set k0 d1) := by
  have ha : argOf m d1 = argOf m d0 := by unfold argOf; rw [hd1, hc1]
  have hfr : ∀ {k : Nat} {d : Dg}, ds[k]? = some d → k ≠ k0 → addedB (ths.set n p') d = addedB ths d ∧ oldOf (ths.set n p') d = oldOf ths d := fun hk hne => added_frame p' (hown _ _ hk hne)
  have hv0 := h.v0
  refine ⟨⟨by omega, hv5⟩, ?_, fun n' nx ci t hn' => ?_, fun k d hk => ?_, fun k d e hk he => ?_, fun k d hk ha1 ha2 => ?_, fun j k d d' hjk hj hk h1 h2 a1 a2 => ?_⟩
  · rw [sum_set (f := con m ths) ds k0 d0 d1 hk0 (fun j x hj hne => by unfold con; rw [(hfr hj hne).1]), ← h.sum]
    unfold con
    rw [ha]
    rcases hc with ⟨e, e1, _⟩ | ⟨e1, e2, _, e⟩ | ⟨e, e1⟩
    · rw [e1, e]; omega
    · rw [e1, e2, e]; simp
    · rw [e1, e]; simp
  · rcases get_set hn' with ⟨e, e2⟩ | ⟨e, e2⟩
    · subst e
      have := hth ci t (by rw [← e2])
      rw [← e2] at this
      exact this
    · obtain ⟨a, c, b1, b2⟩ := h.th n' nx ci t e2
      exact ⟨a, c, b1, b2.mono hv⟩
  · rcases get_set hk with ⟨_, rfl⟩ | ⟨hne, hk⟩
    · rw [hd1, hc1]; exact h.call k0 d0 hk0
    · exact h.call k d hk
  · rcases get_set hk with ⟨_, rfl⟩ | ⟨hne, hk⟩
    · exact htold e he
    · obtain ⟨o, b1, b2, b3⟩ := h.told k d e hk he
      exact ⟨o, b1, b2, by omega⟩
  · rcases get_set hk with ⟨_, rfl⟩ | ⟨hne, hk⟩
    · rw [ha] at ha2 ⊢
      rcases hc with ⟨e, e1, e2⟩ | ⟨e1, e2, e3, e⟩ | ⟨e, e1⟩
      · rw [e1] at ha1
        have := h.le k0 d0 hk0 ha1 ha2
        rw [e2 ha1]; omega
      · rw [e3]; omega
      · omega
    · rw [(hfr hk hne).1] at ha1
      rw [(hfr hk hne).2]
      have := h.le k d hk ha1 ha2
      omega
  · have key : ∀ {k : Nat} {d : Dg}, ds[k]? = some d → k ≠ k0 → addedB (ths.set n p') d = true → addedB (ths.set n p') d1 = true → 1 ≤ argOf m d → 1 ≤ argOf m d1 → oldOf (ths.set n p') d + argOf m d ≤ oldOf (ths.set n p') d1 ∨ oldOf (ths.set n p') d1 + argOf m d1 ≤ oldOf (ths.set n p') d := by
      intro k d hk hne g1 g2 b1 b2
      rw [(hfr hk hne).1] at g1
      rw [(hfr hk hne).2, ha] at *
      rcases hc with ⟨e, e1, e2⟩ | ⟨e1, e2, e3, e⟩ | ⟨e, e1⟩
      · rw [e1] at g2
        rw [e2 g2]
        exact h.dis k k0 d d0 hne hk hk0 g1 g2 b1 b2
      · rw [e3]
        exact .inl (h.le k d hk g1 b1).2
      · omega
    rcases get_set hj with ⟨e1, e1'⟩ | ⟨hne, hj2⟩
    · rcases get_set hk with ⟨e2, e2'⟩ | ⟨hne2, hk2⟩
      · omega
      · subst e1'
        exact (key hk2 hne2 h2 h1 a2 a1).symm
    · rcases get_set hk with ⟨e2, e2'⟩ | ⟨hne2, hk2⟩
      · subst e2'
        exact key hj2 hne h1 h2 a1 a2
      · rw [(hfr hj2 hne).1] at h1
        rw [(hfr hk2 hne2).1] at h2
        rw [(hfr hj2 hne).2, (hfr hk2 hne2).2]
        exact h.dis j k d d' hjk hj2 hk2 h1 h2 a1 a2
theorem wrap_small {x : Int} (h0 : -1000000 ≤ x) (h1 : x ≤ 1000000) : wrap64 x = x := by unfold wrap64; omega
theorem addT (p : Nat) (a o z : Int) : addedT (addTh p a o z) = (decide (3 ≤ p) && decide (z = 1)) ∧ (addTh p a o z).regs.getD 1 0 = o := ⟨rfl, rfl⟩
theorem getT (p : Nat) (o : Int) : addedT (getTh p o) = false := by simp [addedT, getTh]
theorem setSelf {α : Type} {l : List α} {n : Nat} {p : α} (h : l[n]? = some p) : l.set n p = l := by
  refine List.ext_getElem? fun j => ?_
  by_cases e : n = j
  · subst e; rw [set_at h, h]
  · rw [List.getElem?_set, if_neg e]
def KI (m : Mach) (i : Nat) (ths : List PT) (ws : List Int) (ds : List Dg) : Prop := ∃ v, ws = [v] ∧ KV m i ths v ds
theorem KV.up {m : Mach} {i : Nat} {ths : List PT} {v : Int} {ds : List Dg} (h : KV m i ths v ds) : KV m (i + 1) ths v ds :=
  ⟨⟨h.v0.1, by have := h.v0.2; omega⟩, h.sum, h.th, h.call, h.told, h.le, h.dis⟩
theorem count_keeps {m : Mach} (hm : CntM m) (l : List Nat) (hl : l.length ≤ 6000) : PKeeps m l (KI m) where
  idle := by
    rintro i s n hi hD ⟨v, hv, h⟩ hn
    exact ⟨v, hv, h.up⟩
  begin_ := by
    rintro i s n nx calls c hi hD ⟨v, hv, h⟩ hn hc hcc
    have hcall : callOf m n nx = some c := by unfold callOf; rw [hc]; exact hcc
    have hok := hm.call n calls nx c hc hcc
    have hrest : ∀ {k : Nat} {d : Dg}, (doings s.evs)[k]? = some d → d.e = none → d.t ≠ n := fun hk he => hD.rest hn hk he
    obtain ⟨t, ht, htf, hta⟩ : ∃ t, vbegin (m.codes.getD c.code []).length c.args = t ∧ TF v c c.code t ∧ addedT t = false := by
      rcases hok with rfl | ⟨a, rfl, h1, h2⟩
      · refine ⟨getTh 0 0, ?_, .inl ⟨rfl, rfl, .inl rfl⟩, getT 0 0⟩
        show vbegin (m.codes.getD 1 []).length [] = _
        rw [hm.c1, get_begin]
      · refine ⟨addTh 0 a 0 0, ?_, .inr ⟨a, rfl, h1, h2, rfl, .inl ⟨0, 0, rfl⟩⟩, rfl⟩
        show vbegin (m.codes.getD 0 []).length [a] = _
        rw [hm.c0, add_begin]
    rw [ht]
    refine ⟨v, hv, ?_⟩
    have hnew : addedB (s.ths.set n ⟨nx + 1, some (c.code, t)⟩) ⟨i, none, n, nx, []⟩ = false := by
      rw [(added_own (ths := s.ths.set n ⟨nx + 1, some (c.code, t)⟩) (d := ⟨i, none, n, nx, []⟩) rfl (thOf_at hn _)).1]; exact hta
    have hfr : ∀ {k : Nat} {d : Dg}, (doings s.evs)[k]? = some d → addedB (s.ths.set n ⟨nx + 1, some (c.code, t)⟩) d = addedB s.ths d ∧ oldOf (s.ths.set n ⟨nx + 1, some (c.code, t)⟩) d = oldOf s.ths d := fun hk => added_frame _ (hrest hk)
    refine ⟨h.v0, ?_, fun n' nx' ci t' hn' => ?_, fun k d hk => ?_, fun k d e hk he => ?_, fun k d hk ha1 ha2 => ?_, fun j k d d' hjk hj hk h1 h2 a1 a2 => ?_⟩
    · rw [List.map_append, List.sum_append]
      have e1 : (doings s.evs).map (con m (s.ths.set n ⟨nx + 1, some (c.code, t)⟩)) = (doings s.evs).map (con m s.ths) := List.map_congr_left fun d hd => by
        obtain ⟨k, hk⟩ := List.getElem?_of_mem hd
        unfold con; rw [(hfr hk).1]
      rw [e1, ← h.sum]
      simp [con, hnew]
    · rcases get_set hn' with ⟨e, e2⟩ | ⟨e, e2⟩
      · injection e2 with e3 e4; injection e4 with e4; injection e4 with e4 e5
        subst e e3 e4 e5
        exact ⟨by omega, c, by rw [Nat.add_sub_cancel]; exact hcall, htf⟩
      · exact h.th n' nx' ci t' e2
    · rcases get_snoc hk with hk | ⟨_, rfl⟩
      · exact h.call k d hk
      · exact ⟨c, hcall, hok⟩
    · rcases get_snoc hk with hk | ⟨_, rfl⟩
      · exact h.told k d e hk he
      · cases he
    · rcases get_snoc hk with hk | ⟨_, rfl⟩
      · rw [(hfr hk).1] at ha1
        rw [(hfr hk).2]
        exact h.le k d hk ha1 ha2
      · rw [hnew] at ha1; cases ha1
    · rcases get_snoc hj with hj | ⟨_, rfl⟩
      · rcases get_snoc hk with hk | ⟨_, rfl⟩
        · rw [(hfr hj).1] at h1
          rw [(hfr hk).1] at h2
          rw [(hfr hj).2, (hfr hk).2]
          exact h.dis j k d d' hjk hj hk h1 h2 a1 a2
        · rw [hnew] at h2; cases h2
      · rw [hnew] at h1; cases h1
  cont := by
    rintro i s n nx ci t hi hD ⟨v, hv, h⟩ hn hov
    have hi6 : i < 6000 := Nat.lt_of_lt_of_le (List.getElem?_eq_some_iff.1 hi).1 hl
    have hv0 := h.v0
    obtain ⟨hnx, c, hcall, htf⟩ := h.th n nx ci t hn
    obtain ⟨k0, d0, hk0, ht0, hdc0, he0, _⟩ := hD.cur hn rfl
    have hdc0 : d0.c = nx - 1 := hdc0
    have hown : ∀ (k : Nat) (d : Dg), (doings s.evs)[k]? = some d → k ≠ k0 → d.e = none → d.t ≠ n := fun k d hk hne he e => hne (hD.own hn hk hk0 e ht0 he he0)
    have hst : (doings s.evs).set k0 d0 = doings s.evs := setSelf hk0
    have harg : argOf m d0 = c.args.getD 0 0 := by unfold argOf; rw [ht0, hdc0, hcall]
    have o0 := added_own he0 (by rw [ht0]; exact thOf_get hn)
    -- the thread's place is another one, the number may be
    have go : ∀ (t' : Th) (v' : Int), v ≤ v' → v' ≤ 5 * (i + 1 : Nat) → TF v' c ci t' → ((v' = v ∧ addedT t' = addedT t ∧ (addedT t = true → t'.regs.getD 1 0 = t.regs.getD 1 0)) ∨ (addedT t = false ∧ addedT t' = true ∧ t'.regs.getD 1 0 = v ∧ v' = v + argOf m d0) ∨ (v' = v ∧ argOf m d0 = 0)) → KV m (i + 1) (s.ths.set n ⟨nx, some (ci, t')⟩) v' (doings s.evs) := by
      intro t' v' h1 h2 h3 h4
      have o1 := added_own (ths := s.ths.set n ⟨nx, some (ci, t')⟩) he0 (by rw [ht0]; exact thOf_at hn _)
      have := h.own hk0 hn ht0 hown ⟨nx, some (ci, t')⟩ d0 rfl rfl v' h1 h2 (fun ci' t2 e => by injection e with e; injection e with e1 e2; subst e1 e2; exact ⟨hnx, c, hcall, h3⟩) (fun e he => by rw [he0] at he; cases he) (by rw [o0.1, o0.2, o1.1, o1.2]; exact h4)
      rw [hst] at this
      exact this
    have h5 : v ≤ 5 * (i + 1 : Nat) := by have := hv0.2; omega
    rcases htf with ⟨rfl, rfl, htf⟩ | ⟨a, rfl, ha1, ha5, rfl, htf⟩
    · rw [hm.c1] at hov ⊢
      rcases htf with rfl | ⟨o, rfl, _⟩
      · rw [hv, get_0]
        exact ⟨v, rfl, go (getTh 1 v) v (Int.le_refl _) h5 (.inl ⟨rfl, rfl, .inr ⟨v, rfl, hv0.1, Int.le_refl _⟩⟩) (.inr (.inr ⟨rfl, by rw [harg]; rfl⟩))⟩
      · rw [get_1] at hov; cases hov
    · have harg : argOf m d0 = a := harg
      rw [hm.c0] at hov ⊢
      rcases htf with ⟨o, z, rfl⟩ | ⟨o, z, rfl, h0, h1⟩ | ⟨o, rfl, h0, h1⟩ | ⟨o, rfl⟩ | ⟨o, rfl, h0, h1⟩ | ⟨o, rfl, h0, h1⟩
      · rw [hv, add_0]
        exact ⟨v, rfl, go (addTh 1 a v z) v (Int.le_refl _) h5 (.inr ⟨a, rfl, ha1, ha5, rfl, .inr (.inl ⟨v, z, rfl, hv0.1, Int.le_refl _⟩)⟩) (.inl ⟨rfl, rfl, fun e => by cases e⟩)⟩
      · rw [hv, add_1, wrap_small (by omega) (by have := hv0.2; omega)]
        exact ⟨v, rfl, go (addTh 2 a o (o + a)) v (Int.le_refl _) h5 (.inr ⟨a, rfl, ha1, ha5, rfl, .inr (.inr (.inl ⟨o, rfl, h0, h1⟩))⟩) (.inl ⟨rfl, rfl, fun e => by cases e⟩)⟩
      · rw [hv, add_2]
        by_cases e : v = o
        · subst e
          rw [if_pos rfl]
          exact ⟨v + a, rfl, go (addTh 3 a v 1) (v + a) (by omega) (by have := hv0.2; omega) (.inr ⟨a, rfl, ha1, ha5, rfl, .inr (.inr (.inr (.inr (.inl ⟨v, rfl, h0, Int.le_refl _⟩))))⟩) (.inr (.inl ⟨rfl, rfl, rfl, by rw [harg]⟩))⟩
        · rw [if_neg e]
          exact ⟨v, rfl, go (addTh 3 a o 0) v (Int.le_refl _) h5 (.inr ⟨a, rfl, ha1, ha5, rfl, .inr (.inr (.inr (.inl ⟨o, rfl⟩)))⟩) (.inl ⟨rfl, rfl, fun e => by cases e⟩)⟩
      · rw [add_3b, hv]
        exact ⟨v, rfl, go (addTh 0 a o 0) v (Int.le_refl _) h5 (.inr ⟨a, rfl, ha1, ha5, rfl, .inl ⟨o, 0, rfl⟩⟩) (.inl ⟨rfl, rfl, fun e => by cases e⟩)⟩
      · rw [add_3a, hv]
        exact ⟨v, rfl, go (addTh 4 a o 1) v (Int.le_refl _) h5 (.inr ⟨a, rfl, ha1, ha5, rfl, .inr (.inr (.inr (.inr (.inr ⟨o, rfl, h0, h1⟩))))⟩) (.inl ⟨rfl, rfl, fun _ => rfl⟩)⟩
      · rw [add_4] at hov; cases hov
  fin_ := by
    rintro i s n nx ci t k0 d0 hi hD ⟨v, hv, h⟩ hn hov hk0 ht0 hdc0 he0 htold
    have hv0 := h.v0
    obtain ⟨hnx, c, hcall, htf⟩ := h.th n nx ci t hn
    have hown : ∀ (k : Nat) (d : Dg), (doings s.evs)[k]? = some d → k ≠ k0 → d.e = none → d.t ≠ n := fun k d hk hne he e => hne (hD.own hn hk hk0 e ht0 he he0)
    have harg : argOf m d0 = c.args.getD 0 0 := by unfold argOf; rw [ht0, hdc0, hcall]
    have o0 := added_own he0 (by rw [ht0]; exact thOf_get hn)
    have h5 : v ≤ 5 * (i + 1 : Nat) := by have := hv0.2; omega
    have go : ∀ o : Int, 0 ≤ o → o ≤ v → ((addedT t = true ∧ t.regs.getD 1 0 = o) ∨ argOf m d0 = 0) → KV m (i + 1) (s.ths.set n ⟨nx, none⟩) v ((doings s.evs).set k0 { d0 with e := some i, told := [o] }) := by
      intro o h1 h2 h3
      have o1 := added_done (ths := s.ths.set n ⟨nx, none⟩) (d := { d0 with e := some i, told := [o] }) rfl
      refine h.own hk0 hn ht0 hown ⟨nx, none⟩ { d0 with e := some i, told := [o] } rfl rfl v (Int.le_refl _) h5 (fun ci' t2 e => by cases e) (fun e he => ⟨o, rfl, h1, h2⟩) ?_
      rw [o1.1, o1.2, o0.1, o0.2]
      rcases h3 with ⟨h3, h4⟩ | h3
      · exact .inl ⟨rfl, h3.symm, fun _ => h4.symm⟩
      · exact .inr (.inr ⟨rfl, h3⟩)
    rcases htf with ⟨rfl, rfl, htf⟩ | ⟨a, rfl, ha1, ha5, rfl, htf⟩
    · rw [hm.c1] at hov ⊢
      rcases htf with rfl | ⟨o, rfl, h0, h1⟩
      · rw [hv, get_0] at hov; cases hov
      · rw [get_1, hv]
        exact ⟨⟨v, rfl, go o h0 h1 (.inr (by rw [harg]; rfl))⟩, rfl⟩
    · rw [hm.c0] at hov ⊢
      rcases htf with ⟨o, z, rfl⟩ | ⟨o, z, rfl, h0, h1⟩ | ⟨o, rfl, h0, h1⟩ | ⟨o, rfl⟩ | ⟨o, rfl, h0, h1⟩ | ⟨o, rfl, h0, h1⟩
      · rw [hv, add_0] at hov; cases hov
      · rw [add_1] at hov; cases hov
      · rw [hv, add_2] at hov
        split at hov <;> cases hov
      · rw [add_3b] at hov; cases hov
      · rw [add_3a] at hov; cases hov
      · rw [add_4, hv]
        exact ⟨⟨v, rfl, go o h0 (by omega) (.inl ⟨rfl, rfl⟩)⟩, rfl⟩
theorem count_start {m : Mach} (hm : CntM m) : KI m 0 (pinit m).ths m.words [] := by
  have hp : ∀ (n : Nat) (p : PT), (pinit m).ths[n]? = some p → p = ⟨0, none⟩ := by
    intro n p h
    unfold pinit at h
    simp only [List.getElem?_replicate] at h
    split at h
    · injection h with h; exact h.symm
    · cases h
  refine ⟨0, hm.ws, ⟨⟨by omega, by omega⟩, rfl, fun n nx ci t h => ?_, fun k d h => by simp at h, fun k d e h => by simp at h, fun k d h => by simp at h, fun j k d d' _ h => by simp at h⟩⟩
  have := hp _ _ h
  injection this with _ this
  cases this
theorem count_play {m : Mach} (hm : CntM m) (l : List Nat) (hl : l.length ≤ 6000) : KI m l.length (play m l).ths (play m l).words (doings (play m l).evs) ∧ NoErr (play m l).evs := (count_keeps hm l hl).play (count_start hm)
end Go.Proofs.YtbcjgnigdddlkaaDoor
