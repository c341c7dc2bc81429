/-
  Package count: the calls of a run in an order of their own; plain laws.
-/
import Derived.Test.YtnoinojhocicjaaDoorCountLaw
namespace Go.Proofs.YtnoinojhocicjaaDoor
open Go.RowKit
set_option linter.unusedVariables false

def loadedB (ths : List PT) (d : Dg) : Bool := match d.e with | some _ => true | none => (match thOf ths d.t with | some t => decide (t.pc = 1) | none => false)
def getOf (ths : List PT) (d : Dg) : Int := match d.e with | some _ => d.told.getD 0 0 | none => (match thOf ths d.t with | some t => t.regs.getD 0 0 | none => 0)
/-- a call that has had its effect, and the number on which it had it -/
def eff (m : Mach) (ths : List PT) (d : Dg) : Bool := if argOf m d = 0 then loadedB ths d else addedB ths d
def keyOf (m : Mach) (ths : List PT) (d : Dg) : Int := if argOf m d = 0 then getOf ths d else oldOf ths d
theorem eff_frame {m : Mach} {ths : List PT} {n : Nat} {d : Dg} (p : PT) (h : d.e = none → d.t ≠ n) : eff m (ths.set n p) d = eff m ths d ∧ keyOf m (ths.set n p) d = keyOf m ths d := by
  have h1 := added_frame (ths := ths) p h
  have h2 : loadedB (ths.set n p) d = loadedB ths d ∧ getOf (ths.set n p) d = getOf ths d := by
    unfold loadedB getOf
    cases he : d.e with
    | some e => exact ⟨rfl, rfl⟩
    | none => simp only; rw [thOf_ne p (h he)]; exact ⟨rfl, rfl⟩
  unfold eff keyOf
  rw [h1.1, h1.2, h2.1, h2.2]
  exact ⟨rfl, rfl⟩
theorem eff_done {m : Mach} {ths : List PT} {d : Dg} {e : Nat} (he : d.e = some e) : eff m ths d = true ∧ keyOf m ths d = d.told.getD 0 0 := by
  have h1 := added_done (ths := ths) he
  have h2 : loadedB ths d = true ∧ getOf ths d = d.told.getD 0 0 := by unfold loadedB getOf; rw [he]; exact ⟨rfl, rfl⟩
  unfold eff keyOf
  rw [h1.1, h1.2, h2.1, h2.2]
  constructor <;> split <;> rfl
theorem eff_own {m : Mach} {ths : List PT} {d : Dg} {t : Th} (he : d.e = none) (ht : thOf ths d.t = some t) :
    eff m ths d = (if argOf m d = 0 then decide (t.pc = 1) else addedT t) ∧ keyOf m ths d = (if argOf m d = 0 then t.regs.getD 0 0 else t.regs.getD 1 0) := by
  have h1 := added_own (ths := ths) he ht
  have h2 : loadedB ths d = decide (t.pc = 1) ∧ getOf ths d = t.regs.getD 0 0 := by unfold loadedB getOf; rw [he]; simp only; rw [ht]; exact ⟨rfl, rfl⟩
  unfold eff keyOf
  rw [h1.1, h1.2, h2.1, h2.2]
  exact ⟨rfl, rfl⟩
structure KL (m : Mach) (i : Nat) (ths : List PT) (v : Int) (ds : List Dg) : Prop where
  kv : KV m i ths v ds
  pos : ∀ (k : Nat) (d : Dg), ds[k]? = some d → 0 ≤ argOf m d
  top : ∀ (k : Nat) (d : Dg), ds[k]? = some d → eff m ths d = true → 0 ≤ keyOf m ths d ∧ keyOf m ths d + argOf m d ≤ v
  cov : ∀ h : Int, 0 ≤ h → h < v → ∃ (k : Nat) (d : Dg), ds[k]? = some d ∧ eff m ths d = true ∧ 1 ≤ argOf m d ∧ keyOf m ths d ≤ h ∧ h < keyOf m ths d + argOf m d
  rt : ∀ (j k : Nat) (d d' : Dg) (e : Nat), ds[j]? = some d → ds[k]? = some d' → d.e = some e → e < d'.b → eff m ths d' = true → keyOf m ths d + argOf m d ≤ keyOf m ths d'
  dis2 : ∀ (j k : Nat) (d d' : Dg), j ≠ k → ds[j]? = some d → ds[k]? = some d' → eff m ths d = true → eff m ths d' = true → keyOf m ths d + argOf m d ≤ keyOf m ths d' ∨ keyOf m ths d' + argOf m d' ≤ keyOf m ths d
theorem KL.own {m : Mach} {i n : Nat} {ths : List PT} {v : Int} {ds : List Dg} (h : KL m i ths v ds) {k0 : Nat} {d0 : Dg} {p0 : PT} (hk0 : ds[k0]? = some d0) (hn : ths[n]? = some p0) (ht0 : d0.t = n)
    (hown : ∀ (k : Nat) (d : Dg), ds[k]? = some d → k ≠ k0 → d.e = none → d.t ≠ n) (hb : ∀ (k : Nat) (d : Dg), ds[k]? = some d → d.b ≤ i) (p' : PT) (d1 : Dg) (hd1 : d1.t = d0.t) (hc1 : d1.c = d0.c) (hb1 : d1.b = d0.b) (he1 : ∀ e, d1.e = some e → e = i) (he0 : d0.e = none) (v' : Int)
    (hkv : KV m (i + 1) (ths.set n p') v' (ds.set k0 d1))
    (hc : (v' = v ∧ eff m (ths.set n p') d1 = eff m ths d0 ∧ (eff m ths d0 = true → keyOf m (ths.set n p') d1 = keyOf m ths d0)) ∨ (eff m ths d0 = false ∧ eff m (ths.set n p') d1 = true ∧ keyOf m (ths.set n p') d1 = v ∧ v' = v + argOf m d0)) :
    KL m (i + 1) (ths.set n p') v' (ds.set k0 d1) := by
  have ha : argOf m d1 = argOf m d0 := by unfold argOf; rw [hd1, hc1]
  have hfr : ∀ {k : Nat} {d : Dg}, ds[k]? = some d → k ≠ k0 → eff m (ths.set n p') d = eff m ths d ∧ keyOf m (ths.set n p') d = keyOf m ths d := fun hk hne => eff_frame p' (hown _ _ hk hne)
  have hp0 := h.pos k0 d0 hk0
  have hv0 := h.kv.v0.1
  have hvv : v ≤ v' := by rcases hc with ⟨e, _⟩ | ⟨_, _, _, e⟩ <;> omega
  refine ⟨hkv, fun k d hk => ?_, fun k d hk he => ?_, fun x hx0 hxv => ?_, fun j k d d' e hj hk he hlt hef => ?_, fun j k d d' hjk hj hk g1 g2 => ?_⟩
  · rcases get_set hk with ⟨_, rfl⟩ | ⟨_, hk⟩
    · rw [ha]; exact hp0
    · exact h.pos k d hk
  · rcases get_set hk with ⟨_, rfl⟩ | ⟨hne, hk⟩
    · rw [ha]
      rcases hc with ⟨e, e1, e2⟩ | ⟨e1, e2, e3, e4⟩
      · rw [e1] at he
        rw [e2 he, e]
        exact h.top k0 d0 hk0 he
      · rw [e3]; omega
    · rw [(hfr hk hne).1] at he
      rw [(hfr hk hne).2]
      have := h.top k d hk he
      omega
  · have old : x < v → ∃ (k : Nat) (d : Dg), (ds.set k0 d1)[k]? = some d ∧ eff m (ths.set n p') d = true ∧ 1 ≤ argOf m d ∧ keyOf m (ths.set n p') d ≤ x ∧ x < keyOf m (ths.set n p') d + argOf m d := by
      intro hlt
      obtain ⟨k, d, a1, a2, a3, a4, a5⟩ := h.cov x hx0 hlt
      by_cases e : k = k0
      · subst e
        rw [hk0] at a1; injection a1 with a1; subst a1
        refine ⟨k, d1, set_at hk0 _, ?_⟩
        rw [ha]
        rcases hc with ⟨_, e1, e2⟩ | ⟨e1, _⟩
        · rw [e1, e2 a2]; exact ⟨a2, a3, a4, a5⟩
        · rw [e1] at a2; cases a2
      · refine ⟨k, d, set_get a1 (fun e' => e e'.symm) _, ?_⟩
        rw [(hfr a1 e).1, (hfr a1 e).2]
        exact ⟨a2, a3, a4, a5⟩
    by_cases hlt : x < v
    · exact old hlt
    · rcases hc with ⟨e, _⟩ | ⟨e1, e2, e3, e4⟩
      · omega
      · refine ⟨k0, d1, set_at hk0 _, e2, ?_⟩
        rw [ha, e3]; omega
  · rcases get_set hj with ⟨_, e1⟩ | ⟨hne, hj2⟩
    · have := he1 e (by rw [← e1]; exact he)
      subst this
      rcases get_set hk with ⟨_, e2⟩ | ⟨hne2, hk2⟩
      · rw [e2, hb1] at hlt
        have := hb k0 d0 hk0; omega
      · have := hb k d' hk2; omega
    · rw [(hfr hj2 hne).2]
      rcases get_set hk with ⟨_, e2⟩ | ⟨hne2, hk2⟩
      · subst e2
        rcases hc with ⟨_, e1, e2⟩ | ⟨e1, e2, e3, e4⟩
        · rw [e1] at hef
          rw [e2 hef]
          exact h.rt j k0 d d0 e hj2 hk0 he (by rw [hb1] at hlt; exact hlt) hef
        · rw [e3]
          exact (h.top j d hj2 (eff_done he).1).2
      · rw [(hfr hk2 hne2).1] at hef
        rw [(hfr hk2 hne2).2]
        exact h.rt j k d d' e hj2 hk2 he hlt hef
  · have key : ∀ {k : Nat} {d : Dg}, ds[k]? = some d → k ≠ k0 → eff m (ths.set n p') d = true → eff m (ths.set n p') d1 = true → keyOf m (ths.set n p') d + argOf m d ≤ keyOf m (ths.set n p') d1 ∨ keyOf m (ths.set n p') d1 + argOf m d1 ≤ keyOf m (ths.set n p') d := by
      intro k d hk hne b1 b2
      rw [(hfr hk hne).1] at b1
      rw [(hfr hk hne).2, ha]
      rcases hc with ⟨_, e1, e2⟩ | ⟨e1, e2, e3, e4⟩
      · rw [e1] at b2
        rw [e2 b2]
        exact h.dis2 k k0 d d0 hne hk hk0 b1 b2
      · rw [e3]
        exact .inl (h.top k d hk b1).2
    rcases get_set hj with ⟨e1, e1'⟩ | ⟨hne, hj2⟩
    · rcases get_set hk with ⟨e2, e2'⟩ | ⟨hne2, hk2⟩
      · omega
      · subst e1'
        exact (key hk2 hne2 g2 g1).symm
    · rcases get_set hk with ⟨e2, e2'⟩ | ⟨hne2, hk2⟩
      · subst e2'
        exact key hj2 hne g1 g2
      · rw [(hfr hj2 hne).1] at g1
        rw [(hfr hk2 hne2).1] at g2
        rw [(hfr hj2 hne).2, (hfr hk2 hne2).2]
        exact h.dis2 j k d d' hjk hj2 hk2 g1 g2
def KLI (m : Mach) (i : Nat) (ths : List PT) (ws : List Int) (ds : List Dg) : Prop := ∃ v, ws = [v] ∧ KL m i ths v ds
theorem arg_pos {m : Mach} {d : Dg} {c : VCall} (h : callOf m d.t d.c = some c) (hc : OkCall c) : (c = ⟨1, []⟩ ∧ argOf m d = 0) ∨ (c ≠ ⟨1, []⟩ ∧ 1 ≤ argOf m d) := by
  unfold argOf
  rw [h]
  rcases hc with rfl | ⟨a, rfl, h1, _⟩
  · exact .inl ⟨rfl, rfl⟩
  · exact .inr ⟨by simp, h1⟩
theorem lin_keeps {m : Mach} (hm : CntM m) (l : List Nat) (hl : l.length ≤ 6000) : PKeeps m l (KLI m) where
  idle := by
    rintro i s n hi hD ⟨v, hv, h⟩ hn
    exact ⟨v, hv, h.kv.up, h.pos, h.top, h.cov, h.rt, h.dis2⟩
  begin_ := by
    rintro i s n nx calls c hi hD ⟨v, hv, h⟩ hn hc hcc
    obtain ⟨v2, hv2, hkv⟩ := (count_keeps hm l hl).begin_ i s n nx calls c hi hD ⟨v, hv, h.kv⟩ hn hc hcc
    have e : v2 = v := by rw [hv] at hv2; injection hv2 with hv2; exact hv2.symm
    subst e
    have hcall : callOf m n nx = some c := by unfold callOf; rw [hc]; exact hcc
    have hok := hm.call n calls nx c hc hcc
    have hrest : ∀ {k : Nat} {d : Dg}, (doings s.evs)[k]? = some d → d.e = none → d.t ≠ n := fun hk he => hD.rest hn hk he
    have hfr : ∀ {k : Nat} {d : Dg}, (doings s.evs)[k]? = some d → eff m (s.ths.set n ⟨nx + 1, some (c.code, vbegin (m.codes.getD c.code []).length c.args)⟩) d = eff m s.ths d ∧ keyOf m (s.ths.set n ⟨nx + 1, some (c.code, vbegin (m.codes.getD c.code []).length c.args)⟩) d = keyOf m s.ths d := fun hk => eff_frame _ (hrest hk)
    have hap := arg_pos (m := m) (d := ⟨i, none, n, nx, []⟩) hcall hok
    have hnew : eff m (s.ths.set n ⟨nx + 1, some (c.code, vbegin (m.codes.getD c.code []).length c.args)⟩) ⟨i, none, n, nx, []⟩ = false := by
      rw [(eff_own (m := m) (ths := s.ths.set n _) (d := ⟨i, none, n, nx, []⟩) rfl (thOf_at hn _)).1]
      rcases hok with rfl | ⟨a, rfl, h1, h2⟩
      · rw [if_pos (by rcases hap with ⟨_, h⟩ | ⟨h, _⟩; exact h; exact absurd rfl h)]; rfl
      · rw [if_neg (by rcases hap with ⟨h, _⟩ | ⟨_, h⟩; cases h; omega)]
        show addedT (vbegin (m.codes.getD 0 []).length [a]) = false
        rw [hm.c0, add_begin]; rfl
    refine ⟨v2, hv, hkv, fun k d hk => ?_, fun k d hk he => ?_, fun x h0 h1 => ?_, fun j k d d' e hj hk he hlt hef => ?_, fun j k d d' hjk hj hk g1 g2 => ?_⟩
    · rcases get_snoc hk with hk | ⟨_, rfl⟩
      · exact h.pos k d hk
      · rcases hap with ⟨_, h⟩ | ⟨_, h⟩ <;> omega
    · rcases get_snoc hk with hk | ⟨_, rfl⟩
      · rw [(hfr hk).1] at he
        rw [(hfr hk).2]
        exact h.top k d hk he
      · rw [hnew] at he; cases he
    · obtain ⟨k, d, a1, a2, a3, a4, a5⟩ := h.cov x h0 h1
      refine ⟨k, d, snoc_get a1 _, ?_⟩
      rw [(hfr a1).1, (hfr a1).2]
      exact ⟨a2, a3, a4, a5⟩
    · rcases get_snoc hj with hj | ⟨_, rfl⟩
      · rcases get_snoc hk with hk | ⟨_, rfl⟩
        · rw [(hfr hk).1] at hef
          rw [(hfr hj).2, (hfr hk).2]
          exact h.rt j k d d' e hj hk he hlt hef
        · rw [hnew] at hef; cases hef
      · cases he
    · rcases get_snoc hj with hj | ⟨_, rfl⟩
      · rcases get_snoc hk with hk | ⟨_, rfl⟩
        · rw [(hfr hj).1] at g1
          rw [(hfr hk).1] at g2
          rw [(hfr hj).2, (hfr hk).2]
          exact h.dis2 j k d d' hjk hj hk g1 g2
        · rw [hnew] at g2; cases g2
      · rw [hnew] at g1; cases g1
  cont := by
    rintro i s n nx ci t hi hD ⟨v, hv, h⟩ hn hov
    obtain ⟨v2, hv2, hkv⟩ := (count_keeps hm l hl).cont i s n nx ci t hi hD ⟨v, hv, h.kv⟩ hn hov
    have hv0 := h.kv.v0
    have hi6 : i < 6000 := Nat.lt_of_lt_of_le (List.getElem?_eq_some_iff.1 hi).1 hl
    obtain ⟨hnx, c, hcall, htf⟩ := h.kv.th n nx ci t hn
    obtain ⟨k0, d0, hk0, ht0, hdc0, he0, _⟩ := hD.cur hn rfl
    have hdc0 : d0.c = nx - 1 := hdc0
    have hown : ∀ (k : Nat) (d : Dg), (doings s.evs)[k]? = some d → k ≠ k0 → d.e = none → d.t ≠ n := fun k d hk hne he e => hne (hD.own hn hk hk0 e ht0 he he0)
    have hst : (doings s.evs).set k0 d0 = doings s.evs := setSelf hk0
    have hb : ∀ (k : Nat) (d : Dg), (doings s.evs)[k]? = some d → d.b ≤ i := fun k d hk => Nat.le_of_lt_succ (hD.time k d hk).1
    have harg : argOf m d0 = c.args.getD 0 0 := by unfold argOf; rw [ht0, hdc0, hcall]
    have o0 := eff_own (m := m) he0 (by rw [ht0]; exact thOf_get hn)
    refine ⟨v2, hv2, ?_⟩
    have go : ((v2 = v ∧ (if argOf m d0 = 0 then decide ((vstep (m.codes.getD ci []) t s.words).1.pc = 1) else addedT (vstep (m.codes.getD ci []) t s.words).1) = (if argOf m d0 = 0 then decide (t.pc = 1) else addedT t) ∧ ((if argOf m d0 = 0 then decide (t.pc = 1) else addedT t) = true → (if argOf m d0 = 0 then (vstep (m.codes.getD ci []) t s.words).1.regs.getD 0 0 else (vstep (m.codes.getD ci []) t s.words).1.regs.getD 1 0) = (if argOf m d0 = 0 then t.regs.getD 0 0 else t.regs.getD 1 0))) ∨
        ((if argOf m d0 = 0 then decide (t.pc = 1) else addedT t) = false ∧ (if argOf m d0 = 0 then decide ((vstep (m.codes.getD ci []) t s.words).1.pc = 1) else addedT (vstep (m.codes.getD ci []) t s.words).1) = true ∧ (if argOf m d0 = 0 then (vstep (m.codes.getD ci []) t s.words).1.regs.getD 0 0 else (vstep (m.codes.getD ci []) t s.words).1.regs.getD 1 0) = v ∧ v2 = v + argOf m d0)) → KL m (i + 1) (s.ths.set n ⟨nx, some (ci, (vstep (m.codes.getD ci []) t s.words).1)⟩) v2 (doings s.evs) := by
      intro h4
      have o1 := eff_own (m := m) (ths := s.ths.set n ⟨nx, some (ci, (vstep (m.codes.getD ci []) t s.words).1)⟩) he0 (by rw [ht0]; exact thOf_at hn _)
      have := h.own hk0 hn ht0 hown hb ⟨nx, some (ci, (vstep (m.codes.getD ci []) t s.words).1)⟩ d0 rfl rfl rfl (fun e he => by rw [he0] at he; cases he) he0 v2 (by rw [hst]; exact hkv) (by rw [o0.1, o0.2, o1.1, o1.2]; exact h4)
      rw [hst] at this
      exact this
    apply go
    clear go hkv
    rcases htf with ⟨rfl, rfl, htf⟩ | ⟨a, rfl, ha1, ha5, rfl, htf⟩
    · have h0 : argOf m d0 = 0 := harg
      simp only [if_pos h0]
      rw [hm.c1] at hov hv2 ⊢
      rcases htf with rfl | ⟨o, rfl, _⟩
      · rw [hv, get_0] at hv2 ⊢
        injection hv2 with hv2
        exact .inr ⟨rfl, rfl, rfl, by rw [h0]; omega⟩
      · rw [get_1] at hov; cases hov
    · have h0 : argOf m d0 = a := harg
      have hn0 : ¬ argOf m d0 = 0 := by omega
      simp only [if_neg hn0]
      rw [hm.c0] at hov hv2 ⊢
      rcases htf with ⟨o, z, rfl⟩ | ⟨o, z, rfl, h0', h1⟩ | ⟨o, rfl, h0', h1⟩ | ⟨o, rfl⟩ | ⟨o, rfl, h0', h1⟩ | ⟨o, rfl, h0', h1⟩
      · rw [hv, add_0] at hv2 ⊢
        injection hv2 with hv2
        exact .inl ⟨hv2.symm, rfl, fun e => by cases e⟩
      · rw [hv, add_1] at hv2 ⊢
        injection hv2 with hv2
        exact .inl ⟨hv2.symm, rfl, fun e => by cases e⟩
      · rw [hv, add_2] at hv2 ⊢
        by_cases e : v = o
        · subst e
          rw [if_pos rfl] at hv2 ⊢
          injection hv2 with hv2
          exact .inr ⟨rfl, rfl, rfl, by rw [h0]; exact hv2.symm⟩
        · rw [if_neg e] at hv2 ⊢
          injection hv2 with hv2
          exact .inl ⟨hv2.symm, rfl, fun e => by cases e⟩
      · rw [add_3b, hv] at hv2 
        rw [add_3b]
        injection hv2 with hv2
        exact .inl ⟨hv2.symm, rfl, fun e => by cases e⟩
      · rw [add_3a, hv] at hv2
        rw [add_3a]
        injection hv2 with hv2
        exact .inl ⟨hv2.symm, rfl, fun _ => rfl⟩
      · rw [add_4] at hov; cases hov
  fin_ := by
    rintro i s n nx ci t k0 d0 hi hD ⟨v, hv, h⟩ hn hov hk0 ht0 hdc0 he0 htold
    obtain ⟨⟨v2, hv2, hkv⟩, herr⟩ := (count_keeps hm l hl).fin_ i s n nx ci t k0 d0 hi hD ⟨v, hv, h.kv⟩ hn hov hk0 ht0 hdc0 he0 htold
    refine ⟨⟨v2, hv2, ?_⟩, herr⟩
    obtain ⟨hnx, c, hcall, htf⟩ := h.kv.th n nx ci t hn
    have hown : ∀ (k : Nat) (d : Dg), (doings s.evs)[k]? = some d → k ≠ k0 → d.e = none → d.t ≠ n := fun k d hk hne he e => hne (hD.own hn hk hk0 e ht0 he he0)
    have hb : ∀ (k : Nat) (d : Dg), (doings s.evs)[k]? = some d → d.b ≤ i := fun k d hk => Nat.le_of_lt_succ (hD.time k d hk).1
    have harg : argOf m d0 = c.args.getD 0 0 := by unfold argOf; rw [ht0, hdc0, hcall]
    have o0 := eff_own (m := m) he0 (by rw [ht0]; exact thOf_get hn)
    have o1 := eff_done (m := m) (ths := s.ths.set n ⟨nx, none⟩) (d := { d0 with e := some i, told := (vstep (m.codes.getD ci []) t s.words).1.told }) rfl
    refine h.own hk0 hn ht0 hown hb ⟨nx, none⟩ { d0 with e := some i, told := (vstep (m.codes.getD ci []) t s.words).1.told } rfl rfl rfl (fun e he => by injection he with he; exact he.symm) he0 v2 hkv ?_
    rw [o0.1, o0.2, o1.1, o1.2]
    clear hkv o0 o1 herr
    left
    rcases htf with ⟨rfl, rfl, htf⟩ | ⟨a, rfl, ha1, ha5, rfl, htf⟩
    · have h0 : argOf m d0 = 0 := harg
      simp only [if_pos h0]
      rw [hm.c1] at hov hv2 ⊢
      rcases htf with rfl | ⟨o, rfl, _⟩
      · rw [hv, get_0] at hov; cases hov
      · rw [get_1, hv] at hv2
        rw [get_1]
        injection hv2 with hv2
        exact ⟨hv2.symm, rfl, fun _ => rfl⟩
    · have h0 : argOf m d0 = a := harg
      have hn0 : ¬ argOf m d0 = 0 := by omega
      simp only [if_neg hn0]
      rw [hm.c0] at hov hv2 ⊢
      rcases htf with ⟨o, z, rfl⟩ | ⟨o, z, rfl, h0', h1⟩ | ⟨o, rfl, h0', h1⟩ | ⟨o, rfl⟩ | ⟨o, rfl, h0', h1⟩ | ⟨o, rfl, h0', h1⟩
      · rw [hv, add_0] at hov; cases hov
      · rw [add_1] at hov; cases hov
      · rw [hv, add_2] at hov
        split at hov <;> cases hov
      · rw [add_3b] at hov; cases hov
      · rw [add_3a] at hov; cases hov
      · rw [add_4, hv] at hv2
        rw [add_4]
        injection hv2 with hv2
        exact ⟨hv2.symm, rfl, fun _ => rfl⟩
theorem lin_start {m : Mach} (hm : CntM m) : KLI m 0 (pinit m).ths m.words [] := by
  obtain ⟨v, hv, K⟩ := count_start hm
  have hw := hm.ws
  rw [hw] at hv
  injection hv with hv
  subst hv
  exact ⟨0, hw, K, fun k d h => (by simp at h), fun k d h => (by simp at h), fun x h0 h1 => (by omega), fun j k d d' e h => (by simp at h), fun j k d d' _ h => (by simp at h)⟩
theorem lin_play {m : Mach} (hm : CntM m) (l : List Nat) (hl : l.length ≤ 6000) : KLI m l.length (play m l).ths (play m l).words (doings (play m l).evs) := ((lin_keeps hm l hl).play (lin_start hm)).1
/-! ### acts one behind the other -/
structure LAct where
  b : Nat
  e : Option Nat
  put : Bool
  val : Int
  by_ : Int
/-- acts of a counter that could be one behind the other, from h on -/
def Lin : Nat → Int → List LAct → Prop
  | 0, _, left => ∀ a ∈ left, a.e = none
  | n + 1, h, left => (∀ a ∈ left, a.e = none) ∨ ∃ (i : Nat) (a : LAct), left[i]? = some a ∧ (∀ b ∈ left, ∀ e, b.e = some e → ¬ e < a.b) ∧ (a.e = none ∨ a.val = h) ∧ Lin n (h + a.by_) (left.eraseIdx i)
/-- an act, whether it had its effect, and on which number -/
structure GAct where
  act : LAct
  ok : Bool
  key : Int
structure LinH (v h : Int) (L : List GAct) : Prop where
  hv : h ≤ v
  by0 : ∀ x ∈ L, 0 ≤ x.act.by_
  done : ∀ x ∈ L, ∀ e, x.act.e = some e → x.ok = true ∧ x.act.val = x.key ∧ x.act.b ≤ e
  get : ∀ x ∈ L, x.ok = true → x.act.by_ = 0 → x.act.e ≠ none
  top : ∀ x ∈ L, x.ok = true → h ≤ x.key ∧ x.key + x.act.by_ ≤ v
  cov : ∀ y : Int, h ≤ y → y < v → ∃ x ∈ L, x.ok = true ∧ 1 ≤ x.act.by_ ∧ x.key ≤ y ∧ y < x.key + x.act.by_
  rt : ∀ x ∈ L, ∀ x' ∈ L, ∀ e, x.act.e = some e → e < x'.act.b → x'.ok = true → x.key + x.act.by_ ≤ x'.key
  dis : ∀ (j k : Nat) (x x' : GAct), j ≠ k → L[j]? = some x → L[k]? = some x' → x.ok = true → x'.ok = true → x.key + x.act.by_ ≤ x'.key ∨ x'.key + x'.act.by_ ≤ x.key
theorem mem_erase {α : Type} {L : List α} {i : Nat} {x : α} (h : x ∈ L.eraseIdx i) : x ∈ L := List.mem_of_mem_eraseIdx h
/-- without one of them -/
theorem LinH.erase {v h : Int} {L : List GAct} (H : LinH v h L) {i : Nat} {a : GAct} (ha : L[i]? = some a) (hok : a.ok = true) (hkey : a.key = h) (hno : a.act.by_ = 0 ∨ ∀ x ∈ L, x.act.e ≠ none → x.act.by_ = 0 → x.key ≠ h) : LinH v (h + a.act.by_) (L.eraseIdx i) := by
  have hm := List.mem_of_getElem? ha
  have ht := H.top a hm hok
  have key : ∀ (j : Nat) (x : GAct), j ≠ i → L[j]? = some x → x.ok = true → h + a.act.by_ ≤ x.key := by
    intro j x hj hx hxo
    have hxm := List.mem_of_getElem? hx
    have h1 := (H.top x hxm hxo).1
    rcases hno with h0 | hno
    · omega
    · have h2 := H.by0 x hxm
      have h3 := H.by0 a hm
      rcases H.dis j i x a hj hx ha hxo hok with h4 | h4
      · have hx0 : x.act.by_ = 0 := by omega
        have := hno x hxm (H.get x hxm hxo hx0) hx0
        omega
      · omega
  have keym : ∀ x ∈ L.eraseIdx i, x.ok = true → h + a.act.by_ ≤ x.key := by
    intro x hx hxo
    obtain ⟨j, hj⟩ := List.getElem?_of_mem hx
    rw [List.getElem?_eraseIdx] at hj
    split at hj
    · exact key j x (by omega) hj hxo
    · exact key (j + 1) x (by omega) hj hxo
  refine ⟨by omega, fun x hx => H.by0 x (mem_erase hx), fun x hx => H.done x (mem_erase hx), fun x hx => H.get x (mem_erase hx), fun x hx hxo => ⟨keym x hx hxo, (H.top x (mem_erase hx) hxo).2⟩, fun y hy hyv => ?_, fun x hx x' hx' => H.rt x (mem_erase hx) x' (mem_erase hx'), fun j k x x' hjk hj hk => ?_⟩
  · have hb := H.by0 a hm
    obtain ⟨x, hx, b1, b2, b3, b4⟩ := H.cov y (by omega) hyv
    refine ⟨x, ?_, b1, b2, b3, b4⟩
    obtain ⟨j, hj⟩ := List.getElem?_of_mem hx
    by_cases e : j = i
    · subst e
      rw [ha] at hj; injection hj with hj; subst hj
      omega
    · by_cases hlt : j < i
      · exact List.mem_of_getElem? (i := j) (by rw [List.getElem?_eraseIdx, if_pos hlt]; exact hj)
      · exact List.mem_of_getElem? (i := j - 1) (by rw [List.getElem?_eraseIdx, if_neg (by omega), show j - 1 + 1 = j by omega]; exact hj)
  · rw [List.getElem?_eraseIdx] at hj hk
    split at hj
    · split at hk
      · exact H.dis j k x x' hjk hj hk
      · exact H.dis j (k + 1) x x' (by omega) hj hk
    · split at hk
      · exact H.dis (j + 1) k x x' (by omega) hj hk
      · exact H.dis (j + 1) (k + 1) x x' (by omega) hj hk
theorem erase_map {α β : Type} (f : α → β) (L : List α) (i : Nat) : (L.map f).eraseIdx i = (L.eraseIdx i).map f := by
  refine List.ext_getElem? fun j => ?_
  rw [List.getElem?_eraseIdx, List.getElem?_map, List.getElem?_map, List.getElem?_map, List.getElem?_eraseIdx]
  split <;> rfl
theorem min_of {P : GAct → Prop} : ∀ (L : List GAct), (∃ x ∈ L, P x) → ∃ x ∈ L, P x ∧ ∀ y ∈ L, P y → x.act.b ≤ y.act.b
  | [], h => by obtain ⟨x, hx, _⟩ := h; cases hx
  | z :: L, h => by
    by_cases hL : ∃ x ∈ L, P x
    · obtain ⟨x, hx, h1, h2⟩ := min_of L hL
      by_cases hz : P z ∧ z.act.b < x.act.b
      · refine ⟨z, List.mem_cons_self, hz.1, fun y hy hp => ?_⟩
        rcases List.mem_cons.1 hy with rfl | hy
        · exact Nat.le_refl _
        · have := h2 y hy hp; omega
      · refine ⟨x, List.mem_cons_of_mem _ hx, h1, fun y hy hp => ?_⟩
        rcases List.mem_cons.1 hy with rfl | hy
        · rcases Nat.lt_or_ge y.act.b x.act.b with h3 | h3
          · exact absurd ⟨hp, h3⟩ hz
          · exact h3
        · exact h2 y hy hp
    · obtain ⟨x, hx, hp⟩ := h
      rcases List.mem_cons.1 hx with rfl | hx
      · refine ⟨x, List.mem_cons_self, hp, fun y hy hpy => ?_⟩
        rcases List.mem_cons.1 hy with rfl | hy
        · exact Nat.le_refl _
        · exact absurd ⟨y, hy, hpy⟩ hL
      · exact absurd ⟨x, hx, hp⟩ hL
theorem lin_of {v : Int} : ∀ (n : Nat) (h : Int) (L : List GAct), L.length = n → LinH v h L → Lin n h (L.map (·.act))
  | 0, h, L, hn, H => by
    have : L = [] := List.length_eq_zero_iff.1 hn
    subst this
    intro a ha; cases ha
  | n + 1, h, L, hn, H => by
    by_cases hall : ∀ a ∈ L.map (·.act), a.e = none
    · exact .inl hall
    right
    have step : ∀ (x : GAct), x ∈ L → x.ok = true → x.key = h → (x.act.e = none ∨ x.act.val = h) → (∀ y ∈ L, ∀ e, y.act.e = some e → ¬ e < x.act.b) → (x.act.by_ = 0 ∨ ∀ y ∈ L, y.act.e ≠ none → y.act.by_ = 0 → y.key ≠ h) → ∃ (i : Nat) (a : LAct), (L.map (·.act))[i]? = some a ∧ (∀ b ∈ L.map (·.act), ∀ e, b.e = some e → ¬ e < a.b) ∧ (a.e = none ∨ a.val = h) ∧ Lin n (h + a.by_) ((L.map (·.act)).eraseIdx i) := by
      intro x hx hok hkey hval hfirst hno
      obtain ⟨i, hi⟩ := List.getElem?_of_mem hx
      refine ⟨i, x.act, by rw [List.getElem?_map, hi]; rfl, fun b hb => ?_, hval, ?_⟩
      · obtain ⟨y, hy, rfl⟩ := List.mem_map.1 hb
        exact hfirst y hy
      · rw [erase_map]
        refine lin_of n _ _ ?_ (H.erase hi hok hkey hno)
        rw [List.length_eraseIdx, if_pos (List.getElem?_eq_some_iff.1 hi).1, hn, Nat.add_sub_cancel]
    by_cases hget : ∃ x ∈ L, x.act.e ≠ none ∧ x.act.by_ = 0 ∧ x.key = h
    · obtain ⟨x, hx, ⟨h1, h2, h3⟩, hmin⟩ := min_of L hget
      obtain ⟨e, he⟩ := Option.ne_none_iff_exists'.1 h1
      obtain ⟨hok, hval, hbe⟩ := H.done x hx e he
      refine step x hx hok h3 (.inr (by rw [hval, h3])) (fun y hy ey hey hlt => ?_) (.inl h2)
      obtain ⟨yok, _, ybe⟩ := H.done y hy ey hey
      have h4 := H.rt y hy x hx ey hey hlt hok
      have h5 := (H.top y hy yok).1
      have h6 := H.by0 y hy
      have h7 := hmin y hy ⟨by rw [hey]; simp, by omega, by omega⟩
      omega
    · have hno : ∀ y ∈ L, y.act.e ≠ none → y.act.by_ = 0 → y.key ≠ h := fun y hy a b c => hget ⟨y, hy, a, b, c⟩
      have hex : ∃ x0 ∈ L, x0.act.e ≠ none := by
        have h1 := Classical.not_forall.1 hall
        obtain ⟨a, h1⟩ := h1
        have h2 := Classical.not_imp.1 h1
        obtain ⟨y, hy, rfl⟩ := List.mem_map.1 h2.1
        exact ⟨y, hy, h2.2⟩
      obtain ⟨x0, hx0, he0⟩ := hex
      obtain ⟨e, he⟩ := Option.ne_none_iff_exists'.1 he0
      obtain ⟨hok0, _, _⟩ := H.done x0 hx0 e he
      have ht0 := H.top x0 hx0 hok0
      have hb0 := H.by0 x0 hx0
      have hlt : h < v := by
        by_cases hz : x0.act.by_ = 0
        · have := hno x0 hx0 he0 hz; omega
        · omega
      obtain ⟨x, hx, b1, b2, b3, b4⟩ := H.cov h (Int.le_refl _) hlt
      have htx := (H.top x hx b1).1
      have hkey : x.key = h := by omega
      refine step x hx b1 hkey ?_ (fun y hy ey hey hl => ?_) (.inr hno)
      · cases hxe : x.act.e with
        | none => exact .inl rfl
        | some e2 => exact .inr (by rw [(H.done x hx e2 hxe).2.1, hkey])
      · obtain ⟨yok, _, _⟩ := H.done y hy ey hey
        have h4 := H.rt y hy x hx ey hey hl b1
        have h5 := (H.top y hy yok).1
        have h6 := H.by0 y hy
        exact hno y hy (by rw [hey]; simp) (by omega) (by omega)
/-- the act that a call is -/
def actOf (m : Mach) (d : Dg) : LAct := ⟨d.b, d.e, decide (argOf m d ≠ 0), d.told.getD 0 0, argOf m d⟩
/-- the calls of a run of the counter could be one behind the other -/
theorem lin_count {m : Mach} (hm : CntM m) (l : List Nat) (hl : l.length ≤ 6000) : Lin (doings (play m l).evs).length 0 ((doings (play m l).evs).map (actOf m)) := by
  obtain ⟨v, hv, K⟩ := lin_play hm l hl
  have D := play_di m l
  let G : List GAct := (doings (play m l).evs).map fun d => ⟨actOf m d, d.e.isSome || (decide (argOf m d ≠ 0) && eff m (play m l).ths d), keyOf m (play m l).ths d⟩
  have hmap : (doings (play m l).evs).map (actOf m) = G.map (·.act) := by
    show _ = List.map _ (List.map _ _)
    rw [List.map_map]; rfl
  have hlen : G.length = (doings (play m l).evs).length := List.length_map _
  have hat : ∀ {k : Nat} {x : GAct}, G[k]? = some x → ∃ d, (doings (play m l).evs)[k]? = some d ∧ x = ⟨actOf m d, d.e.isSome || (decide (argOf m d ≠ 0) && eff m (play m l).ths d), keyOf m (play m l).ths d⟩ := by
    intro k x hk
    have hk' : ((doings (play m l).evs).map fun d => (⟨actOf m d, d.e.isSome || (decide (argOf m d ≠ 0) && eff m (play m l).ths d), keyOf m (play m l).ths d⟩ : GAct))[k]? = some x := hk
    rw [List.getElem?_map] at hk'
    obtain ⟨d, h1, h2⟩ := Option.map_eq_some_iff.1 hk'
    exact ⟨d, h1, h2.symm⟩
  have hmem : ∀ {x : GAct}, x ∈ G → ∃ (k : Nat) (d : Dg), (doings (play m l).evs)[k]? = some d ∧ x = ⟨actOf m d, d.e.isSome || (decide (argOf m d ≠ 0) && eff m (play m l).ths d), keyOf m (play m l).ths d⟩ := by
    intro x hx
    obtain ⟨k, hk⟩ := List.getElem?_of_mem hx
    obtain ⟨d, h1, h2⟩ := hat hk
    exact ⟨k, d, h1, h2⟩
  have heff : ∀ d : Dg, (d.e.isSome || (decide (argOf m d ≠ 0) && eff m (play m l).ths d)) = true → eff m (play m l).ths d = true := by
    intro d h
    cases he : d.e with
    | some e => exact (eff_done he).1
    | none => rw [he] at h; simp at h; exact h.2
  rw [hmap, ← hlen]
  refine lin_of (v := v) G.length 0 G rfl ⟨K.kv.v0.1, fun x hx => ?_, fun x hx e he => ?_, fun x hx hok h0 => ?_, fun x hx hok => ?_, fun y h0 h1 => ?_, fun x hx x' hx' e he hlt hok => ?_, fun j k x x' hjk hj hk h1 h2 => ?_⟩
  · obtain ⟨k, d, hk, rfl⟩ := hmem hx
    exact K.pos k d hk
  · obtain ⟨k, d, hk, rfl⟩ := hmem hx
    have he' : d.e = some e := he
    refine ⟨by simp [he'], ?_, ((D.time k d hk).2 e he').1⟩
    exact (eff_done he').2.symm
  · obtain ⟨k, d, hk, rfl⟩ := hmem hx
    have h0' : argOf m d = 0 := h0
    simp only [h0', ne_eq, not_true_eq_false, decide_false, Bool.false_and, Bool.or_false] at hok
    intro he
    have he' : d.e = none := he
    rw [he'] at hok; cases hok
  · obtain ⟨k, d, hk, rfl⟩ := hmem hx
    exact K.top k d hk (heff d hok)
  · obtain ⟨k, d, hk, a2, a3, a4, a5⟩ := K.cov y h0 h1
    refine ⟨⟨actOf m d, d.e.isSome || (decide (argOf m d ≠ 0) && eff m (play m l).ths d), keyOf m (play m l).ths d⟩, List.mem_map.2 ⟨d, List.mem_of_getElem? hk, rfl⟩, ?_, a3, a4, a5⟩
    have : argOf m d ≠ 0 := by omega
    simp [this, a2]
  · obtain ⟨j, d, hj, rfl⟩ := hmem hx
    obtain ⟨k, d', hk, rfl⟩ := hmem hx'
    exact K.rt j k d d' e hj hk he hlt (heff d' hok)
  · obtain ⟨d, hj2, rfl⟩ := hat hj
    obtain ⟨d', hk2, rfl⟩ := hat hk
    exact K.dis2 j k d d' hjk hj2 hk2 (heff d h1) (heff d' h2)
end Go.Proofs.YtnoinojhocicjaaDoor
