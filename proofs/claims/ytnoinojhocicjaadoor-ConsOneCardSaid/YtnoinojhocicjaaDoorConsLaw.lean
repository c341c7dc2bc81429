/-
  Package cons under whatever schedule: plain laws.
-/
import Derived.Test.YtnoinojhocicjaaDoorPlayInd
import Derived.Test.YtnoinojhocicjaaDoorCodes1
namespace Go.Proofs.YtnoinojhocicjaaDoor
open Go.RowKit
set_option linter.unusedVariables false

/-- a machine whose calls all propose a number -/
structure ConsM (m : Mach) (words : List Int) : Prop where
  ws : m.words = words
  code : m.codes.getD 0 [] = consCode
  call : ∀ (n : Nat) (calls : List VCall) (nx : Nat) (c : VCall), m.threads[n]? = some calls → calls[nx]? = some c → c.code = 0 ∧ ∃ x : Int, c.args = [x] ∧ 0 ≤ x
/-- what a call proposes -/
def propOf (m : Mach) (n c : Nat) : Option Int := (m.threads[n]?).bind fun calls => (calls[c]?).bind fun v => v.args[0]?
def consTh (p : Nat) (a b : Int) : Th := ⟨a :: b :: List.replicate 22 0, p, [], 0, false⟩
theorem cons_begin (x : Int) : vbegin consCode.length [x] = consTh 0 x 0 := rfl
theorem cons_0 (x : Int) (ws : List Int) : vstep consCode (consTh 0 x 0) ws = (consTh 1 x (-1), ws) := rfl
theorem cons_1 (x y : Int) : vstep consCode (consTh 1 x (-1)) [y] = (if y = -1 then (consTh 2 1 (-1), [x]) else (consTh 2 0 (-1), [y])) := by
  unfold vstep vdo vother
  simp only [consTh, consCode, List.getElem?_cons_succ, List.getElem?_cons_zero]
  simp [vget, vset, wrap64]
  split <;> rfl
theorem cons_1a (x : Int) : vstep consCode (consTh 1 x (-1)) [-1] = (consTh 2 1 (-1), [x]) := by rw [cons_1, if_pos rfl]
theorem cons_1b (x y : Int) (h : y ≠ -1) : vstep consCode (consTh 1 x (-1)) [y] = (consTh 2 0 (-1), [y]) := by rw [cons_1, if_neg h]
theorem cons_2 (a y : Int) : vstep consCode (consTh 2 a (-1)) [y] = (consTh 3 y (-1), [y]) := by
  unfold vstep vdo vother
  simp only [consTh, consCode, List.getElem?_cons_succ, List.getElem?_cons_zero]
  simp [vget, vset, wrap64]
theorem cons_3 (y : Int) (ws : List Int) : vstep consCode (consTh 3 y (-1)) ws = (⟨y :: (-1) :: List.replicate 22 0, 4, [y], 0, true⟩, ws) := rfl
structure CI (m : Mach) (l : List Nat) (i : Nat) (ths : List PT) (ws : List Int) (ds : List Dg) : Prop where
  w : ∃ x, ws = [x] ∧ (x = -1 ∨ (0 ≤ x ∧ ∃ (k : Nat) (d : Dg), ds[k]? = some d ∧ d.b < i ∧ propOf m d.t d.c = some x))
  th : ∀ (n nx ci : Nat) (t : Th), ths[n]? = some ⟨nx, some (ci, t)⟩ → ci = 0 ∧ 1 ≤ nx ∧ ((∃ x, (t = consTh 0 x 0 ∨ t = consTh 1 x (-1)) ∧ 0 ≤ x ∧ propOf m n (nx - 1) = some x) ∨ (∃ y, t = consTh 2 y (-1) ∧ ws ≠ [-1]) ∨ (∃ y, t = consTh 3 y (-1) ∧ ws = [y] ∧ y ≠ -1))
  fin : ∀ (k : Nat) (d : Dg) (e : Nat), ds[k]? = some d → d.e = some e → ∃ y, d.told = [y] ∧ ws = [y] ∧ 0 ≤ y ∧ ∃ (k' : Nat) (d' : Dg), ds[k']? = some d' ∧ d'.b ≤ e ∧ propOf m d'.t d'.c = some y
  pr : ∀ (k : Nat) (d : Dg), ds[k]? = some d → ∃ x, propOf m d.t d.c = some x
  c1 : ∀ (k : Nat) (d : Dg) (e : Nat), ds[k]? = some d → d.e = some e → cnt l d.b (e + 1) d.t = 4
  c2 : ∀ (k : Nat) (d : Dg), ds[k]? = some d → d.e = none → ∃ (nx : Nat) (t : Th), ths[d.t]? = some ⟨nx, some (0, t)⟩ ∧ cnt l d.b i d.t = t.pc
theorem cons_keeps {m : Mach} (hm : ConsM m [-1]) (l : List Nat) : PKeeps m l (CI m l) where
  idle := by
    intro i s n hi hD h hn
    refine ⟨?_, h.th, h.fin, h.pr, h.c1, fun k d hk he => ?_⟩
    · obtain ⟨x, h1, h2⟩ := h.w
      refine ⟨x, h1, ?_⟩
      rcases h2 with h2 | ⟨h2, k, d, a, b, c⟩
      · exact .inl h2
      · exact .inr ⟨h2, k, d, a, by omega, c⟩
    · obtain ⟨nx, t, h1, h2⟩ := h.c2 k d hk he
      refine ⟨nx, t, h1, ?_⟩
      rw [cnt_next hi (Nat.le_of_lt (hD.time k d hk).1), h2, if_neg, Nat.add_zero]
      intro e
      rw [← e] at h1
      exact absurd (hn _ h1) (by simp)
  begin_ := by
    intro i s n nx calls c hi hD h hn hc hcc
    obtain ⟨hc0, x, hx, hx0⟩ := hm.call n calls nx c hc hcc
    have hp : propOf m n nx = some x := by unfold propOf; rw [hc]; simp only [Option.bind_some]; rw [hcc]; simp [hx]
    rw [hc0, hm.code, hx, cons_begin]
    have hrest : ∀ {k : Nat} {d : Dg}, (doings s.evs)[k]? = some d → d.e = none → d.t ≠ n := fun hk he => hD.rest hn hk he
    refine ⟨?_, fun n' nx' ci t hn' => ?_, fun k d e hk he => ?_, fun k d hk => ?_, fun k d e hk he => ?_, fun k d hk he => ?_⟩
    · obtain ⟨y, h1, h2⟩ := h.w
      refine ⟨y, h1, ?_⟩
      rcases h2 with h2 | ⟨h2, k, d, a, b, c⟩
      · exact .inl h2
      · exact .inr ⟨h2, k, d, snoc_get a _, b, c⟩
    · rcases get_set hn' with ⟨e1, e⟩ | ⟨_, e⟩
      · injection e with e2 e; injection e with e; injection e with e3 e4
        subst e1 e2 e3 e4
        exact ⟨rfl, by omega, .inl ⟨x, .inl rfl, hx0, by rw [Nat.add_sub_cancel]; exact hp⟩⟩
      · exact h.th n' nx' ci t e
    · rcases get_snoc hk with hk | ⟨_, rfl⟩
      · obtain ⟨y, a, b, c, k', d', e1, e2, e3⟩ := h.fin k d e hk he
        exact ⟨y, a, b, c, k', d', snoc_get e1 _, e2, e3⟩
      · cases he
    · rcases get_snoc hk with hk | ⟨_, rfl⟩
      · exact h.pr k d hk
      · exact ⟨x, hp⟩
    · rcases get_snoc hk with hk | ⟨_, rfl⟩
      · exact h.c1 k d e hk he
      · cases he
    · rcases get_snoc hk with hk | ⟨_, rfl⟩
      · obtain ⟨nx', t, h1, h2⟩ := h.c2 k d hk he
        exact ⟨nx', t, set_get h1 (fun e => hrest hk he e.symm) _, h2⟩
      · exact ⟨nx + 1, consTh 0 x 0, set_at hn _, cnt_self l i n⟩
  cont := by
    intro i s n nx ci t hi hD h hn hov
    obtain ⟨rfl, hnx, ht⟩ := h.th n nx ci t hn
    rw [hm.code] at hov ⊢
    obtain ⟨k0, d0, hk0, ht0, hdc0, he0, _⟩ := hD.cur hn rfl
    have hdc0 : d0.c = nx - 1 := hdc0
    have hc2 : ∀ (t' : Th), t'.pc = t.pc + 1 → ∀ (k : Nat) (d : Dg), (doings s.evs)[k]? = some d → d.e = none → ∃ (nx' : Nat) (t2 : Th), (s.ths.set n ⟨nx, some (0, t')⟩)[d.t]? = some ⟨nx', some (0, t2)⟩ ∧ cnt l d.b (i + 1) d.t = t2.pc := by
      intro t' hpc k d hk he
      obtain ⟨nx', t2, h1, h2⟩ := h.c2 k d hk he
      have hb := Nat.le_of_lt_succ (hD.time k d hk).1
      by_cases e : d.t = n
      · refine ⟨nx, t', by rw [e]; exact set_at hn _, ?_⟩
        rw [cnt_next hi hb, h2, if_pos e.symm, hpc]
        rw [e, hn] at h1
        injection h1 with h1; injection h1 with _ h1; injection h1 with h1; injection h1 with _ h1
        rw [h1]
      · exact ⟨nx', t2, set_get h1 (fun e' => e e'.symm) _, by rw [cnt_next hi hb, h2, if_neg (fun e' => e e'.symm)]; rfl⟩
    have mono : ∀ {y : Int}, (0 ≤ y ∧ ∃ (k : Nat) (d : Dg), (doings s.evs)[k]? = some d ∧ d.b < i ∧ propOf m d.t d.c = some y) → (0 ≤ y ∧ ∃ (k : Nat) (d : Dg), (doings s.evs)[k]? = some d ∧ d.b < i + 1 ∧ propOf m d.t d.c = some y) := by
      rintro y ⟨a, k, d, b, c, e⟩; exact ⟨a, k, d, b, by omega, e⟩
    -- the word stays
    have same : ∀ t' : Th, t'.pc = t.pc + 1 → ((∃ x, (t' = consTh 0 x 0 ∨ t' = consTh 1 x (-1)) ∧ 0 ≤ x ∧ propOf m n (nx - 1) = some x) ∨ (∃ y, t' = consTh 2 y (-1) ∧ s.words ≠ [-1]) ∨ (∃ y, t' = consTh 3 y (-1) ∧ s.words = [y] ∧ y ≠ -1)) → CI m l (i + 1) (s.ths.set n ⟨nx, some (0, t')⟩) s.words (doings s.evs) := by
      intro t' hpc h1
      refine ⟨?_, fun n' nx' ci t2 hn' => ?_, h.fin, h.pr, h.c1, hc2 t' hpc⟩
      · obtain ⟨y, a, b⟩ := h.w
        rcases b with b | b
        · exact ⟨y, a, .inl b⟩
        · exact ⟨y, a, .inr (mono b)⟩
      · rcases get_set hn' with ⟨e1, e⟩ | ⟨_, e⟩
        · injection e with e2 e; injection e with e; injection e with e3 e4
          subst e1 e2 e3 e4
          exact ⟨rfl, hnx, h1⟩
        · exact h.th n' nx' ci t2 e
    rcases ht with ⟨x, rfl | rfl, hx0, hp⟩ | ⟨y, rfl, hw⟩ | ⟨y, rfl, hw, hy⟩
    · rw [cons_0]
      exact same (consTh 1 x (-1)) rfl (.inl ⟨x, .inr rfl, hx0, hp⟩)
    · obtain ⟨y, hw, hy⟩ := h.w
      rcases hy with rfl | hy
      · rw [hw, cons_1a]
        refine ⟨⟨x, rfl, .inr ⟨hx0, k0, d0, hk0, (hD.time k0 d0 hk0).1, by rw [ht0, hdc0]; exact hp⟩⟩, fun n' nx' ci t2 hn' => ?_, fun k d e hk he => ?_, h.pr, h.c1, hc2 _ rfl⟩
        · rcases get_set hn' with ⟨e1, e⟩ | ⟨_, e⟩
          · injection e with e2 e; injection e with e; injection e with e3 e4
            subst e1 e2 e3 e4
            exact ⟨rfl, hnx, .inr (.inl ⟨1, rfl, fun e => by injection e with e; omega⟩)⟩
          · obtain ⟨a, b, c⟩ := h.th n' nx' ci t2 e
            refine ⟨a, b, ?_⟩
            rcases c with c | ⟨y, c1, c2⟩ | ⟨y, c1, c2, c3⟩
            · exact .inl c
            · exact absurd hw c2
            · rw [hw] at c2; injection c2 with c2; exact absurd c2.symm c3
        · obtain ⟨y, a, b, c, _⟩ := h.fin k d e hk he
          rw [hw] at b; injection b with b; omega
      · have hy1 : y ≠ -1 := by have := hy.1; omega
        rw [hw, cons_1b x y hy1, ← hw]
        exact same (consTh 2 0 (-1)) rfl (.inr (.inl ⟨0, rfl, by rw [hw]; intro e; injection e with e; exact hy1 e⟩))
    · obtain ⟨z, hz, _⟩ := h.w
      rw [hz, cons_2, ← hz]
      exact same (consTh 3 z (-1)) rfl (.inr (.inr ⟨z, rfl, hz, fun e => hw (by rw [hz, e])⟩))
    · rw [cons_3] at hov; cases hov
  fin_ := by
    intro i s n nx ci t k0 d0 hi hD h hn hov hk0 ht0 hdc he0 htold
    obtain ⟨rfl, hnx, ht⟩ := h.th n nx ci t hn
    rw [hm.code] at hov ⊢
    obtain ⟨z, hz, hz2⟩ := h.w
    rcases ht with ⟨x, rfl | rfl, hx0, hp⟩ | ⟨y, rfl, hw⟩ | ⟨y, rfl, hw, hy⟩
    · rw [cons_0] at hov; cases hov
    · rcases hz2 with rfl | hz2
      · rw [hz, cons_1a] at hov; cases hov
      · rw [hz, cons_1b x z (by have := hz2.1; omega)] at hov; cases hov
    · rw [hz, cons_2] at hov; cases hov
    · rw [cons_3]
      refine ⟨?_, rfl⟩
      have hyz : z = y := by rw [hz] at hw; injection hw
      subst hyz
      have hz3 : 0 ≤ z ∧ ∃ (k : Nat) (d : Dg), (doings s.evs)[k]? = some d ∧ d.b < i ∧ propOf m d.t d.c = some z := hz2.resolve_left hy
      have hown : ∀ {k : Nat} {d : Dg}, (doings s.evs)[k]? = some d → d.e = none → d.t = n → k = k0 := fun hk he ht => hD.own hn hk hk0 ht ht0 he he0
      have hne : ∀ {k : Nat} {d : Dg}, (doings s.evs)[k]? = some d → k ≠ k0 → d.e = none → d.t ≠ n := fun hk hne he e => hne (hown hk he e)
      have fw : ∀ {k : Nat} {d : Dg}, (doings s.evs)[k]? = some d → ∃ d', ((doings s.evs).set k0 { d0 with e := some i, told := [z] })[k]? = some d' ∧ d'.b = d.b ∧ d'.t = d.t ∧ d'.c = d.c := by
        intro k d hk
        by_cases e : k = k0
        · subst e
          rw [hk0] at hk; injection hk with hk; subst hk
          exact ⟨_, set_at hk0 _, rfl, rfl, rfl⟩
        · exact ⟨d, set_get hk (fun e' => e e'.symm) _, rfl, rfl, rfl⟩
      obtain ⟨hz0, k1, d1, a1, a2, a3⟩ := hz3
      obtain ⟨d1', b1, b2, b3, b4⟩ := fw a1
      refine ⟨⟨z, hz, .inr ⟨hz0, k1, d1', b1, by omega, by rw [b3, b4]; exact a3⟩⟩, fun n' nx' ci t2 hn' => ?_, fun k d e hk he => ?_, fun k d hk => ?_, fun k d e hk he => ?_, fun k d hk he => ?_⟩
      · rcases get_set hn' with ⟨_, e⟩ | ⟨_, e⟩
        · cases e
        · exact h.th n' nx' ci t2 e
      · rcases get_set hk with ⟨rfl, rfl⟩ | ⟨hkk, hk⟩
        · simp only [Option.some.injEq] at he
          exact ⟨z, rfl, hz, hz0, k1, d1', b1, by omega, by rw [b3, b4]; exact a3⟩
        · obtain ⟨y, p1, p2, p3, k', d', q1, q2, q3⟩ := h.fin k d e hk he
          obtain ⟨d2, r1, r2, r3, r4⟩ := fw q1
          exact ⟨y, p1, p2, p3, k', d2, r1, by omega, by rw [r3, r4]; exact q3⟩
      · rcases get_set hk with ⟨rfl, rfl⟩ | ⟨hkk, hk⟩
        · exact h.pr k d0 hk0
        · exact h.pr k d hk
      · rcases get_set hk with ⟨rfl, rfl⟩ | ⟨hkk, hk⟩
        · simp only [Option.some.injEq] at he
          subst he
          obtain ⟨nx', t2, h1, h2⟩ := h.c2 k d0 hk0 he0
          show cnt l d0.b (i + 1) d0.t = 4
          rw [cnt_next hi (Nat.le_of_lt_succ (hD.time k d0 hk0).1), h2, if_pos ht0.symm]
          rw [ht0, hn] at h1
          injection h1 with h1; injection h1 with _ h1; injection h1 with h1; injection h1 with _ h1
          rw [← h1]; rfl
        · exact h.c1 k d e hk he
      · rcases get_set hk with ⟨rfl, rfl⟩ | ⟨hkk, hk⟩
        · cases he
        · obtain ⟨nx', t2, h1, h2⟩ := h.c2 k d hk he
          have hdn := hne hk hkk he
          exact ⟨nx', t2, set_get h1 (fun e => hdn e.symm) _, by rw [cnt_next hi (Nat.le_of_lt_succ (hD.time k d hk).1), h2, if_neg (fun e => hdn e.symm)]; rfl⟩
theorem cons_start {m : Mach} (hm : ConsM m [-1]) (l : List Nat) : CI m l 0 (pinit m).ths m.words [] := by
  have hp : ∀ (n : Nat) (p : PT), (pinit m).ths[n]? = some p → p = ⟨0, none⟩ := by
    intro n p h
    unfold pinit at h
    simp only [List.getElem?_replicate] at h
    split at h
    · injection h with h; exact h.symm
    · cases h
  refine ⟨⟨-1, hm.ws, .inl rfl⟩, fun n nx ci t h => (by have := hp _ _ h; injection this with _ this; cases this), fun k d e h => (by simp at h), fun k d h => (by simp at h), fun k d e h => (by simp at h), fun k d h => (by simp at h)⟩
theorem cons_play {m : Mach} (hm : ConsM m [-1]) (l : List Nat) : CI m l l.length (play m l).ths (play m l).words (doings (play m l).evs) ∧ NoErr (play m l).evs := (cons_keeps hm l).play (cons_start hm l)
/-- what is left of it: the calls of a run -/
structure ConsR (m : Mach) (l : List Nat) (ds : List Dg) (y : Int) : Prop where
  fin : ∀ (k : Nat) (d : Dg) (e : Nat), ds[k]? = some d → d.e = some e → d.told = [y] ∧ 0 ≤ y ∧ ∃ (k' : Nat) (d' : Dg), ds[k']? = some d' ∧ d'.b ≤ e ∧ propOf m d'.t d'.c = some y
  pr : ∀ (k : Nat) (d : Dg), ds[k]? = some d → ∃ x, propOf m d.t d.c = some x
  spent : ∀ (k : Nat) (d : Dg), ds[k]? = some d → cnt l d.b (match d.e with | none => l.length | some e => e + 1) d.t ≤ 4
  time : ∀ (k : Nat) (d : Dg), ds[k]? = some d → d.b ≤ l.length ∧ ∀ e, d.e = some e → d.b ≤ e ∧ e < l.length
theorem cons_res {m : Mach} (hm : ConsM m [-1]) (l : List Nat) : ∃ y, ConsR m l (doings (play m l).evs) y := by
  have H := (cons_play hm l).1
  have D := play_di m l
  obtain ⟨y, hy, _⟩ := H.w
  refine ⟨y, fun k d e hk he => ?_, H.pr, fun k d hk => ?_, fun k d hk => ⟨Nat.le_of_lt (D.time k d hk).1, fun e he => (D.time k d hk).2 e he⟩⟩
  · obtain ⟨z, h1, h2, h3, h4⟩ := H.fin k d e hk he
    rw [hy] at h2; injection h2 with h2; subst h2
    exact ⟨h1, h3, h4⟩
  · cases he : d.e with
    | none =>
      obtain ⟨nx, t, h1, h2⟩ := H.c2 k d hk he
      simp only
      rw [h2]
      obtain ⟨_, _, h4⟩ := H.th _ _ _ _ h1
      rcases h4 with ⟨x, rfl | rfl, _⟩ | ⟨z, rfl, _⟩ | ⟨z, rfl, _⟩ <;> simp [consTh]
    | some e => exact Nat.le_of_eq (H.c1 k d e hk he)
end Go.Proofs.YtnoinojhocicjaaDoor
