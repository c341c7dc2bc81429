/-
  The last steps of a schedule are one thread's: each of its calls ends within its bound; plain laws.
-/
import Derived.Test.YtabmkjokeeakdaaDoorSolo
import Derived.Test.YtabmkjokeeakdaaDoorInside
namespace Go.Proofs.YtabmkjokeeakdaaDoor
open Go.RowKit
set_option linter.unusedVariables false

/-- what holds while thread τ is alone since step A -/
structure QuietI (m : Mach) (A τ B : Nat) (P : Nat → List Int → Prop) (i : Nat) (ths : List PT) (ws : List Int) (ds : List Dg) : Prop where
  ge : A ≤ i
  th : ∀ nx, ths[τ]? = some ⟨nx, none⟩ → P nx ws
  cu : ∀ nx ci t, ths[τ]? = some ⟨nx, some (ci, t)⟩ → ∃ n t' ws', Ends (m.codes.getD ci []) t ws n t' ws' ∧ t'.err = 0 ∧ P nx ws' ∧ ∀ (k : Nat) (d : Dg), ds[k]? = some d → d.t = τ → d.e = none → i + n ≤ max A d.b + B
  en : ∀ (k : Nat) (d : Dg) (e : Nat), ds[k]? = some d → d.t = τ → d.e = some e → A ≤ e → e < max A d.b + B
theorem quiet_keeps {m : Mach} {a : List Nat} {q τ B : Nat} {P : Nat → List Int → Prop}
    (hP : ∀ nx calls c ws, m.threads[τ]? = some calls → calls[nx]? = some c → P nx ws → ∃ n t' ws', n ≤ B ∧ Ends (m.codes.getD c.code []) (vbegin (m.codes.getD c.code []).length c.args) ws n t' ws' ∧ t'.err = 0 ∧ P (nx + 1) ws') :
    PKeeps m (a ++ List.replicate q τ) (QuietI m a.length τ B P) where
  idle := by
    intro i s n hi hD h hn
    exact ⟨Nat.le_succ_of_le h.ge, h.th, fun nx ci t ht => by
      have hi2 : n = τ := by
        have hg := h.ge
        rw [List.getElem?_append_right hg] at hi
        exact List.eq_of_mem_replicate (List.mem_of_getElem? hi)
      subst hi2
      exact absurd (hn _ ht) (by simp), h.en⟩
  begin_ := by
    intro i s n nx calls c hi hD h hn hc hcc
    have hi2 : n = τ := by
      have hg := h.ge
      rw [List.getElem?_append_right hg] at hi
      exact List.eq_of_mem_replicate (List.mem_of_getElem? hi)
    subst hi2
    obtain ⟨q', t', ws', h1, h2, h3, h4⟩ := hP nx calls c s.words hc hcc (h.th nx hn)
    refine ⟨h.ge, fun nx' hn' => ?_, fun nx' ci t hn' => ?_, fun k d e hk ht he => ?_⟩
    · rcases get_set hn' with ⟨_, e⟩ | ⟨e, _⟩
      · cases e
      · exact absurd rfl e
    · rcases get_set hn' with ⟨_, e⟩ | ⟨e, _⟩
      · injection e with e2 e; injection e with e; injection e with e3 e4
        subst e2 e3 e4
        refine ⟨q', t', ws', h2, h3, h4, fun k d hk ht he => ?_⟩
        rcases get_snoc hk with hk | ⟨_, rfl⟩
        · exact absurd ht (hD.rest hn hk he)
        · show i + q' ≤ max a.length i + B
          omega
      · exact absurd rfl e
    · rcases get_snoc hk with hk | ⟨_, rfl⟩
      · exact h.en k d e hk ht he
      · cases he
  cont := by
    intro i s n nx ci t hi hD h hn hov
    have hi2 : n = τ := by
      have hg := h.ge
      rw [List.getElem?_append_right hg] at hi
      exact List.eq_of_mem_replicate (List.mem_of_getElem? hi)
    subst hi2
    obtain ⟨q', t', ws', h2, h3, h4, h5⟩ := h.cu nx ci t hn
    refine ⟨Nat.le_succ_of_le h.ge, fun nx' hn' => ?_, fun nx' ci' t2 hn' => ?_, h.en⟩
    · rcases get_set hn' with ⟨_, e⟩ | ⟨e, _⟩
      · cases e
      · exact absurd rfl e
    · rcases get_set hn' with ⟨_, e⟩ | ⟨e, _⟩
      · injection e with e2 e; injection e with e; injection e with e3 e4
        subst e2 e3 e4
        cases h2 with
        | last hv ho => rw [hv] at hov; rw [ho] at hov; cases hov
        | more hv ho h6 =>
          rw [hv]
          refine ⟨_, t', ws', h6, h3, h4, fun k d hk ht he => ?_⟩
          have := h5 k d hk ht he
          omega
      · exact absurd rfl e
  fin_ := by
    intro i s n nx ci t k0 d0 hi hD h hn hov hk0 ht0 hdc0 he0 htold
    have hi2 : n = τ := by
      have hg := h.ge
      rw [List.getElem?_append_right hg] at hi
      exact List.eq_of_mem_replicate (List.mem_of_getElem? hi)
    subst hi2
    obtain ⟨q', t', ws', h2, h3, h4, h5⟩ := h.cu nx ci t hn
    cases h2 with
    | more hv ho h6 => rw [hv] at hov; rw [ho] at hov; cases hov
    | last hv ho =>
      rw [hv]
      refine ⟨⟨Nat.le_succ_of_le h.ge, fun nx' hn' => ?_, fun nx' ci' t2 hn' => ?_, fun k d e hk ht he hA => ?_⟩, h3⟩
      · rcases get_set hn' with ⟨_, e⟩ | ⟨e, _⟩
        · injection e with e2 e
          subst e2
          exact h4
        · exact absurd rfl e
      · rcases get_set hn' with ⟨_, e⟩ | ⟨e, _⟩
        · cases e
        · exact absurd rfl e
      · rcases get_set hk with ⟨rfl, rfl⟩ | ⟨hkk, hk⟩
        · simp only [Option.some.injEq] at he
          subst he
          have := h5 k d0 hk0 ht0 he0
          show i < max a.length d0.b + B
          omega
        · exact h.en k d e hk ht he hA
theorem play_len (m : Mach) (l : List Nat) : (play m l).ths.length = m.threads.length := by
  unfold play
  rw [prun_ths]
  simp [pinit]
/-- thread τ alone behind a schedule a -/
theorem quiet_play {m : Mach} {a : List Nat} {q τ B : Nat} {P : Nat → List Int → Prop}
    (hP : ∀ nx calls c ws, m.threads[τ]? = some calls → calls[nx]? = some c → P nx ws → ∃ n t' ws', n ≤ B ∧ Ends (m.codes.getD c.code []) (vbegin (m.codes.getD c.code []).length c.args) ws n t' ws' ∧ t'.err = 0 ∧ P (nx + 1) ws')
    (hN : NoErr (play m a).evs) (h0 : ∀ nx, (play m a).ths[τ]? = some ⟨nx, none⟩ → P nx (play m a).words)
    (h1 : ∀ nx ci t, (play m a).ths[τ]? = some ⟨nx, some (ci, t)⟩ → ∃ n t' ws', n ≤ B ∧ Ends (m.codes.getD ci []) t (play m a).words n t' ws' ∧ t'.err = 0 ∧ P nx ws') :
    QuietI m a.length τ B P (a.length + q) (play m (a ++ List.replicate q τ)).ths (play m (a ++ List.replicate q τ)).words (doings (play m (a ++ List.replicate q τ)).evs) ∧ NoErr (play m (a ++ List.replicate q τ)).evs := by
  have hD := play_di m a
  have := (quiet_keeps (m := m) (a := a) (q := q) (B := B) hP).run (List.replicate q τ) a (play m a) rfl hD (play_fin m a) hN
    ⟨Nat.le_refl _, h0, fun nx ci t ht => by
      obtain ⟨n, t', ws', g1, g2, g3, g4⟩ := h1 nx ci t ht
      exact ⟨n, t', ws', g2, g3, g4, fun k d hk hdt he => by omega⟩, fun k d e hk hdt he hA => by
      have := (hD.time k d hk).2 e he
      omega⟩ (play_len m a)
  have e : prun m a.length (List.replicate q τ) (play m a) = play m (a ++ List.replicate q τ) := by
    unfold play
    rw [prun_append, Nat.zero_add]
  rw [e, List.length_append, List.length_replicate] at this
  exact this
/-- a call that had begun early enough has ended, within the bound -/
theorem QuietI.most {m : Mach} {A τ B q : Nat} {P : Nat → List Int → Prop} {ths : List PT} {ws : List Int} {ds : List Dg} {s : PS} (hD : DI (A + q) s) (hs : s.ths = ths) (hds : doings s.evs = ds) (h : QuietI m A τ B P (A + q) ths ws ds) {k : Nat} {d : Dg} (hk : ds[k]? = some d) (ht : d.t = τ) (hb : d.b + B ≤ A + q) (hB : B ≤ q) :
    ∃ e, d.e = some e ∧ e < max A d.b + B := by
  cases he : d.e with
  | some e =>
    refine ⟨e, rfl, ?_⟩
    by_cases hA : A ≤ e
    · exact h.en k d e hk ht he hA
    · omega
  | none =>
    exfalso
    subst hs hds
    obtain ⟨p, hp, _, h3⟩ := hD.lt k d hk
    obtain ⟨h4, _⟩ := h3.1 he
    obtain ⟨nx, cur⟩ := p
    cases cur with
    | none => cases h4
    | some x =>
      obtain ⟨ci, t⟩ := x
      rw [ht] at hp
      obtain ⟨n, t', ws', g1, g2, g3, g4⟩ := h.cu nx ci t hp
      have := g4 k d hk ht he
      have := g1.pos
      omega
/-- what ended ahead of T stays -/
theorem DPre.keep {T : Nat} {ds ds' : List Dg} (h : DPre T ds ds') {k e : Nat} {d : Dg} (hk : ds[k]? = some d) (he : d.e = some e) : ds'[k]? = some d := by
  obtain ⟨d', h1, _⟩ := h.back hk
  have hl := (List.getElem?_eq_some_iff.1 hk).1
  rcases h.2 k d' h1 with ⟨c, _⟩ | ⟨d0, c1, _, _, _, c2⟩
  · omega
  · rw [hk] at c1
    injection c1 with c1
    subst c1
    rcases c2 with rfl | ⟨c2, _⟩
    · exact h1
    · rw [he] at c2; cases c2
theorem play_split (m : Mach) (a b : List Nat) : play m (a ++ b) = prun m a.length b (play m a) := by
  unfold play
  rw [prun_append, Nat.zero_add]
/-- a thread with a call left, or in one, ends one -/
theorem quiet_some {m : Mach} {a : List Nat} {q τ B : Nat} {P : Nat → List Int → Prop} {calls : List VCall} (hc : m.threads[τ]? = some calls)
    (hP : ∀ nx calls c ws, m.threads[τ]? = some calls → calls[nx]? = some c → P nx ws → ∃ n t' ws', n ≤ B ∧ Ends (m.codes.getD c.code []) (vbegin (m.codes.getD c.code []).length c.args) ws n t' ws' ∧ t'.err = 0 ∧ P (nx + 1) ws')
    (h0 : ∀ nx, (play m a).ths[τ]? = some ⟨nx, none⟩ → P nx (play m a).words)
    (h1 : ∀ nx ci t, (play m a).ths[τ]? = some ⟨nx, some (ci, t)⟩ → ∃ n t' ws', n ≤ B ∧ Ends (m.codes.getD ci []) t (play m a).words n t' ws' ∧ t'.err = 0 ∧ P nx ws') (hB : B ≤ q) :
    (∃ (k : Nat) (d : Dg) (e : Nat), (doings (play m (a ++ List.replicate q τ)).evs)[k]? = some d ∧ d.t = τ ∧ d.e = some e ∧ a.length ≤ e) ∨ (∃ nx, (play m a).ths[τ]? = some ⟨nx, none⟩ ∧ calls.length ≤ nx) := by
  have hτ := (List.getElem?_eq_some_iff.1 hc).1
  have hl := play_len m a
  obtain ⟨p, hp⟩ : ∃ p, (play m a).ths[τ]? = some p := ⟨_, List.getElem?_eq_getElem (by omega)⟩
  obtain ⟨nx, cur⟩ := p
  have fin : ∀ n, n ≤ B → (∃ (k : Nat) (d : Dg) (e : Nat), (doings (play m (a ++ List.replicate n τ)).evs)[k]? = some d ∧ d.t = τ ∧ d.e = some e ∧ a.length ≤ e) → (∃ (k : Nat) (d : Dg) (e : Nat), (doings (play m (a ++ List.replicate q τ)).evs)[k]? = some d ∧ d.t = τ ∧ d.e = some e ∧ a.length ≤ e) := by
    intro n hn ⟨k, d, e, g1, g2, g3, g4⟩
    have hpre := play_pre m (a ++ List.replicate q τ) (a.length + n) (by simp; omega)
    rw [List.take_length_add_append, List.take_replicate, Nat.min_eq_left (by omega)] at hpre
    exact ⟨k, d, e, hpre.keep g1 g3, g2, g3, g4⟩
  cases cur with
  | some x =>
    obtain ⟨ci, t⟩ := x
    obtain ⟨n, t', ws', g1, g2, g3, g4⟩ := h1 nx ci t hp
    refine .inl (fin n g1 ?_)
    have hD := play_di m a
    obtain ⟨k, d, k1, k2, k3, k4, k5⟩ := hD.cur hp rfl
    have hr : play m (a ++ List.replicate n τ) = ⟨(play m a).ths.set τ ⟨nx, none⟩, ws', (play m a).evs ++ [⟨a.length + n - 1, τ, nx - 1, true, t'.err, t'.told⟩]⟩ := by
      rw [play_split]
      exact ends_run hc g2 a.length (play m a).ths (play m a).evs hp
    have hpos := g2.pos
    refine ⟨k, { d with e := some (a.length + n - 1), told := t'.told }, a.length + n - 1, ?_, k2, rfl, by omega⟩
    rw [hr]
    simp only
    rw [doings_snoc, dstep_fin hD hp k1 k2 k3 k4]
    exact set_at k1 _
  | none =>
    by_cases hk : calls.length ≤ nx
    · exact .inr ⟨nx, hp, hk⟩
    refine .inl ?_
    obtain ⟨c, hcc⟩ : ∃ c, calls[nx]? = some c := ⟨_, List.getElem?_eq_getElem (by omega)⟩
    obtain ⟨n, t', ws', g1, g2, g3, g4⟩ := hP nx calls c _ hc hcc (h0 nx hp)
    refine fin n g1 ?_
    have hD := play_di m a
    have hr := begin_run hc hcc g2 a.length (play m a).ths (play m a).evs hp
    have hr2 : play m (a ++ List.replicate n τ) = ⟨(play m a).ths.set τ ⟨nx + 1, none⟩, ws', (play m a).evs ++ [⟨a.length, τ, nx, false, 0, []⟩] ++ [⟨a.length + n - 1, τ, nx, true, t'.err, t'.told⟩]⟩ := by
      rw [play_split]
      exact hr
    have hpos := g2.pos
    refine ⟨(doings (play m a).evs).length, ⟨a.length, some (a.length + n - 1), τ, nx, t'.told⟩, a.length + n - 1, ?_, rfl, rfl, by omega⟩
    rw [hr2]
    simp only
    rw [doings_snoc, doings_snoc]
    have e1 : dstep (doings (play m a).evs) ⟨a.length, τ, nx, false, 0, []⟩ = doings (play m a).evs ++ [⟨a.length, none, τ, nx, []⟩] := rfl
    rw [e1]
    unfold dstep
    rw [if_pos rfl, List.map_append, List.getElem?_append_right (by rw [List.length_map]; exact Nat.le_refl _), List.length_map, Nat.sub_self]
    simp [dopen]
end Go.Proofs.YtabmkjokeeakdaaDoor
