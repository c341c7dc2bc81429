/-
  Package once under whatever schedule: plain laws.
-/
import Derived.Test.YtnoinojhocicjaaDoorPlayInd
import Derived.Test.YtnoinojhocicjaaDoorCodes1
namespace Go.Proofs.YtnoinojhocicjaaDoor
open Go.RowKit
set_option linter.unusedVariables false

def onceMach : Mach := ⟨[0], [onceCode], List.replicate 4 (List.replicate 4 ⟨0, []⟩)⟩
def onceTh (p : Nat) (v : Int) : Th := ⟨v :: List.replicate 23 0, p, [], 0, false⟩
theorem once_begin : vbegin (onceMach.codes.getD 0 []).length [] = onceTh 0 0 := by decide +kernel
theorem once_0 (ws : List Int) : vstep (onceMach.codes.getD 0 []) (onceTh 0 0) ws = (onceTh 1 1, ws) := rfl
theorem once_1a : vstep (onceMach.codes.getD 0 []) (onceTh 1 1) [0] = (onceTh 2 1, [1]) := by decide +kernel
theorem once_1b : vstep (onceMach.codes.getD 0 []) (onceTh 1 1) [1] = (onceTh 2 0, [1]) := by decide +kernel
theorem once_2 (v : Int) (ws : List Int) : vstep (onceMach.codes.getD 0 []) (onceTh 2 v) ws = (⟨v :: List.replicate 23 0, 3, [v], 0, true⟩, ws) := rfl
theorem once_call {n nx : Nat} {calls : List VCall} {c : VCall} (h : onceMach.threads[n]? = some calls) (hc : calls[nx]? = some c) : c = ⟨0, []⟩ := by
  unfold onceMach at h
  simp only [List.getElem?_replicate] at h
  split at h
  · injection h with h; subst h
    rw [List.getElem?_replicate] at hc
    split at hc
    · injection hc with hc; exact hc.symm
    · cases hc
  · cases h
/-- it is the one, or is about to tell so -/
def Wins (ths : List PT) (d : Dg) : Prop := (d.e ≠ none ∧ d.told = [1]) ∨ (d.e = none ∧ ∃ nx, ths[d.t]? = some ⟨nx, some (0, onceTh 2 1)⟩)
theorem Wins.set {ths : List PT} {d : Dg} (h : Wins ths d) {n : Nat} {x : PT} (hn : d.e = none → d.t ≠ n) : Wins (ths.set n x) d := by
  rcases h with h | ⟨h1, nx, h2⟩
  · exact .inl h
  · exact .inr ⟨h1, nx, set_get h2 (fun e => hn h1 e.symm) x⟩
theorem Wins.back {ths : List PT} {d : Dg} {n : Nat} {x : PT} (h : Wins (ths.set n x) d) (hn : d.e = none → d.t ≠ n) : Wins ths d := by
  rcases h with h | ⟨h1, nx, h2⟩
  · exact .inl h
  · rcases get_set h2 with ⟨e, _⟩ | ⟨_, e⟩
    · exact absurd e (hn h1)
    · exact .inr ⟨h1, nx, e⟩
structure OI (l : List Nat) (i : Nat) (ths : List PT) (ws : List Int) (ds : List Dg) : Prop where
  w : ws = [0] ∨ ws = [1]
  th : ∀ (n nx ci : Nat) (t : Th), ths[n]? = some ⟨nx, some (ci, t)⟩ → ci = 0 ∧ (t = onceTh 0 0 ∨ t = onceTh 1 1 ∨ (∃ v, t = onceTh 2 v ∧ (v = 0 ∨ v = 1) ∧ ws = [1]))
  w0 : ws = [0] → ∀ (k : Nat) (d : Dg), ds[k]? = some d → ¬ Wins ths d
  w1 : ws = [1] → ∃ (k : Nat) (d : Dg), ds[k]? = some d ∧ d.b < i ∧ Wins ths d
  z : ∀ (k : Nat) (d : Dg) (e : Nat), ds[k]? = some d → d.e = some e → d.told = [1] ∨ d.told = [0] ∧ ∃ (k' : Nat) (d' : Dg), ds[k']? = some d' ∧ k' ≠ k ∧ d'.b < e ∧ Wins ths d'
  u : ∀ (j k : Nat) (d d' : Dg), ds[j]? = some d → ds[k]? = some d' → Wins ths d → Wins ths d' → j = k
  c1 : ∀ (k : Nat) (d : Dg) (e : Nat), ds[k]? = some d → d.e = some e → cnt l d.b (e + 1) d.t = 3
  c2 : ∀ (k : Nat) (d : Dg), ds[k]? = some d → d.e = none → ∃ (nx : Nat) (t : Th), ths[d.t]? = some ⟨nx, some (0, t)⟩ ∧ cnt l d.b i d.t = t.pc
theorem once_keeps (l : List Nat) : PKeeps onceMach l (OI l) where
  idle := by
    intro i s n hi hD h hn
    refine ⟨h.w, h.th, h.w0, fun e => ?_, h.z, h.u, h.c1, fun k d hk he => ?_⟩
    · obtain ⟨k, d, h1, h2, h3⟩ := h.w1 e; exact ⟨k, d, h1, by omega, h3⟩
    · obtain ⟨nx, t, h1, h2⟩ := h.c2 k d hk he
      refine ⟨nx, t, h1, ?_⟩
      rw [cnt_next hi (Nat.le_of_lt (hD.time k d hk).1), h2, if_neg, Nat.add_zero]
      intro e
      rw [← e] at h1
      exact absurd (hn _ h1) (by simp)
  begin_ := by
    intro i s n nx calls c hi hD h hn hc hcc
    have hcl := once_call hc hcc
    subst hcl
    rw [show vbegin (onceMach.codes.getD (⟨0, []⟩ : VCall).code []).length (⟨0, []⟩ : VCall).args = onceTh 0 0 from once_begin]
    have hrest : ∀ {k : Nat} {d : Dg}, (doings s.evs)[k]? = some d → d.e = none → d.t ≠ n := fun hk he => hD.rest hn hk he
    have hnew : ∀ x : PT, x.cur = some (0, onceTh 0 0) → ¬ Wins (s.ths.set n x) ⟨i, none, n, nx, []⟩ := by
      intro x hx hw
      rcases hw with ⟨h1, _⟩ | ⟨_, nx', h2⟩
      · exact h1 rfl
      · rcases get_set h2 with ⟨_, e⟩ | ⟨e, _⟩
        · rw [← e] at hx
          simp only [Option.some.injEq, Prod.mk.injEq, true_and] at hx
          exact absurd hx (by decide)
        · exact e rfl
    refine ⟨h.w, fun n' nx' ci t hn' => ?_, fun e k d hk => ?_, fun e => ?_, fun k d e hk he => ?_, fun j k d d' hj hk hw hw' => ?_, fun k d e hk he => ?_, fun k d hk he => ?_⟩
    · rcases get_set hn' with ⟨_, e⟩ | ⟨_, e⟩
      · injection e with e1 e2; injection e2 with e2; injection e2 with e2 e3
        exact ⟨e2, .inl e3⟩
      · exact h.th n' nx' ci t e
    · rcases get_snoc hk with hk | ⟨_, rfl⟩
      · exact fun hw => h.w0 e k d hk (hw.back (hrest hk))
      · exact hnew _ rfl
    · obtain ⟨k, d, h1, h2, h3⟩ := h.w1 e
      exact ⟨k, d, snoc_get h1 _, h2, h3.set (hrest h1)⟩
    · rcases get_snoc hk with hk | ⟨_, rfl⟩
      · rcases h.z k d e hk he with h1 | ⟨h1, k', d', h2, h3, h4, h5⟩
        · exact .inl h1
        · exact .inr ⟨h1, k', d', snoc_get h2 _, h3, h4, h5.set (hrest h2)⟩
      · cases he
    · rcases get_snoc hj with hj | ⟨_, rfl⟩
      · rcases get_snoc hk with hk | ⟨_, rfl⟩
        · exact h.u j k d d' hj hk (hw.back (hrest hj)) (hw'.back (hrest hk))
        · exact absurd hw' (hnew _ rfl)
      · exact absurd hw (hnew _ rfl)
    · rcases get_snoc hk with hk | ⟨_, rfl⟩
      · exact h.c1 k d e hk he
      · cases he
    · rcases get_snoc hk with hk | ⟨_, rfl⟩
      · obtain ⟨nx', t, h1, h2⟩ := h.c2 k d hk he
        exact ⟨nx', t, set_get h1 (fun e => hrest hk he e.symm) _, h2⟩
      · exact ⟨nx + 1, onceTh 0 0, set_at hn _, cnt_self l i n⟩
  cont := by
    intro i s n nx ci t hi hD h hn hov
    obtain ⟨rfl, ht⟩ := h.th n nx ci t hn
    obtain ⟨k0, d0, hk0, ht0, _, he0, _⟩ := hD.cur hn rfl
    have hown : ∀ {k : Nat} {d : Dg}, (doings s.evs)[k]? = some d → d.e = none → d.t = n → k = k0 := fun hk he ht => hD.own hn hk hk0 ht ht0 he he0
    -- the calls of other threads count no step, the thread's own one more
    have hc2 : ∀ (t' : Th), t'.pc = t.pc + 1 → ∀ (k : Nat) (d : Dg), (doings s.evs)[k]? = some d → d.e = none → ∃ (nx' : Nat) (t2 : Th), (s.ths.set n ⟨nx, some (0, t')⟩)[d.t]? = some ⟨nx', some (0, t2)⟩ ∧ cnt l d.b (i + 1) d.t = t2.pc := by
      intro t' hpc k d hk he
      obtain ⟨nx', t2, h1, h2⟩ := h.c2 k d hk he
      have hb := Nat.le_of_lt_succ (hD.time k d hk).1
      by_cases e : d.t = n
      · refine ⟨nx, t', by rw [e]; exact set_at hn _, ?_⟩
        rw [cnt_next hi hb, h2, if_pos e.symm, hpc]
        rw [e, hn] at h1
        injection h1 with h1; injection h1 with _ h1; injection h1 with h1; injection h1 with _ h1
        rw [h1]
      · exact ⟨nx', t2, set_get h1 (fun e' => e e'.symm) _, by rw [cnt_next hi hb, h2, if_neg (fun e' => e e'.symm)]; rfl⟩
    have hth : ∀ (t' : Th) (ws : List Int), (t' = onceTh 0 0 ∨ t' = onceTh 1 1 ∨ (∃ v, t' = onceTh 2 v ∧ (v = 0 ∨ v = 1) ∧ ws = [1])) → (s.words = [1] → ws = [1]) → ∀ (n' nx' ci : Nat) (t2 : Th), (s.ths.set n ⟨nx, some (0, t')⟩)[n']? = some ⟨nx', some (ci, t2)⟩ → ci = 0 ∧ (t2 = onceTh 0 0 ∨ t2 = onceTh 1 1 ∨ (∃ v, t2 = onceTh 2 v ∧ (v = 0 ∨ v = 1) ∧ ws = [1])) := by
      intro t' ws h1 h2 n' nx' ci t2 hn'
      rcases get_set hn' with ⟨_, e⟩ | ⟨_, e⟩
      · injection e with e1 e2; injection e2 with e2; injection e2 with e2 e3
        subst e3
        exact ⟨e2, h1⟩
      · obtain ⟨a, b⟩ := h.th n' nx' ci t2 e
        refine ⟨a, ?_⟩
        rcases b with b | b | ⟨v, b1, b2, b3⟩
        · exact .inl b
        · exact .inr (.inl b)
        · exact .inr (.inr ⟨v, b1, b2, h2 b3⟩)
    -- where the thread's own call is not the one, neither ahead nor behind, and the word stays
    have quiet : ∀ t' : Th, t'.pc = t.pc + 1 → (t' = onceTh 0 0 ∨ t' = onceTh 1 1 ∨ (∃ v, t' = onceTh 2 v ∧ (v = 0 ∨ v = 1) ∧ s.words = [1])) → t ≠ onceTh 2 1 → t' ≠ onceTh 2 1 → OI l (i + 1) (s.ths.set n ⟨nx, some (0, t')⟩) s.words (doings s.evs) := by
      intro t' hpc h1 hno hno'
      have fw : ∀ {k : Nat} {d : Dg}, (doings s.evs)[k]? = some d → Wins s.ths d → Wins (s.ths.set n ⟨nx, some (0, t')⟩) d := by
        intro k d hk hw
        refine hw.set fun he e => ?_
        rcases hw with ⟨h2, _⟩ | ⟨_, nx', h2⟩
        · exact h2 he
        · rw [e, hn] at h2
          injection h2 with h2; injection h2 with _ h2; injection h2 with h2; injection h2 with _ h2
          exact hno h2
      have bw : ∀ {k : Nat} {d : Dg}, (doings s.evs)[k]? = some d → Wins (s.ths.set n ⟨nx, some (0, t')⟩) d → Wins s.ths d := by
        intro k d hk hw
        refine hw.back fun he e => ?_
        rcases hw with ⟨h2, _⟩ | ⟨_, nx', h2⟩
        · exact h2 he
        · rw [e, set_at hn] at h2
          injection h2 with h2; injection h2 with _ h2; injection h2 with h2; injection h2 with _ h2
          exact hno' h2
      refine ⟨h.w, hth t' s.words h1 (fun e => e), fun e k d hk hw => h.w0 e k d hk (bw hk hw), fun e => ?_, fun k d e hk he => ?_, fun j k d d' hj hk hw hw' => h.u j k d d' hj hk (bw hj hw) (bw hk hw'), h.c1, hc2 t' hpc⟩
      · obtain ⟨k, d, a, b, c⟩ := h.w1 e; exact ⟨k, d, a, by omega, fw a c⟩
      · rcases h.z k d e hk he with a | ⟨a, k', d', b1, b2, b3, b4⟩
        · exact .inl a
        · exact .inr ⟨a, k', d', b1, b2, b3, fw b1 b4⟩
    rcases ht with rfl | rfl | ⟨v, rfl, _, _⟩
    · rw [once_0]
      exact quiet (onceTh 1 1) rfl (.inr (.inl rfl)) (by decide) (by decide)
    · rcases h.w with hw | hw
      · rw [hw, once_1a]
        have hnw := h.w0 hw
        have bw : ∀ {k : Nat} {d : Dg}, (doings s.evs)[k]? = some d → Wins (s.ths.set n ⟨nx, some (0, onceTh 2 1)⟩) d → k = k0 := by
          intro k d hk hwn
          by_cases he : d.e = none
          · by_cases e : d.t = n
            · exact hown hk he e
            · exact absurd (hwn.back (fun _ => e)) (hnw k d hk)
          · exact absurd (hwn.back (fun e => absurd e he)) (hnw k d hk)
        refine ⟨.inr rfl, hth _ _ (.inr (.inr ⟨1, rfl, .inr rfl, rfl⟩)) (fun _ => rfl), fun e => absurd e (by decide), fun _ => ⟨k0, d0, hk0, (hD.time k0 d0 hk0).1, .inr ⟨he0, nx, by rw [ht0]; exact set_at hn _⟩⟩, fun k d e hk he => ?_, fun j k d d' hj hk hw1 hw2 => by rw [bw hj hw1, bw hk hw2], h.c1, hc2 _ rfl⟩
        rcases h.z k d e hk he with a | ⟨a, k', d', b1, b2, b3, b4⟩
        · exact .inl a
        · exact absurd b4 (hnw k' d' b1)
      · rw [hw, once_1b, ← hw]
        exact quiet (onceTh 2 0) rfl (.inr (.inr ⟨0, rfl, .inl rfl, hw⟩)) (by decide) (by decide)
    · rw [once_2] at hov; cases hov
  fin_ := by
    intro i s n nx ci t k0 d0 hi hD h hn hov hk0 ht0 hdc he0 htold
    obtain ⟨rfl, ht⟩ := h.th n nx ci t hn
    rcases ht with rfl | rfl | ⟨v, rfl, hv, hw⟩
    · rw [once_0] at hov; cases hov
    · rcases h.w with hw | hw
      · rw [hw, once_1a] at hov; cases hov
      · rw [hw, once_1b] at hov; cases hov
    · rw [once_2]
      refine ⟨?_, rfl⟩
      have hown : ∀ {k : Nat} {d : Dg}, (doings s.evs)[k]? = some d → d.e = none → d.t = n → k = k0 := fun hk he ht => hD.own hn hk hk0 ht ht0 he he0
      have hwin0 : Wins s.ths d0 ↔ v = 1 := by
        constructor
        · intro h1
          rcases h1 with ⟨h2, _⟩ | ⟨_, nx', h2⟩
          · exact absurd he0 h2
          · rw [ht0, hn] at h2
            injection h2 with h2; injection h2 with _ h2; injection h2 with h2; injection h2 with _ h2
            rcases hv with rfl | rfl
            · exact absurd h2 (by decide)
            · rfl
        · rintro rfl; exact .inr ⟨he0, nx, by rw [ht0]; exact hn⟩
      have hne : ∀ {k : Nat} {d : Dg}, (doings s.evs)[k]? = some d → k ≠ k0 → d.e = none → d.t ≠ n := fun hk hne he e => hne (hown hk he e)
      have fw : ∀ {k : Nat} {d : Dg}, (doings s.evs)[k]? = some d → Wins s.ths d → ∃ d', ((doings s.evs).set k0 { d0 with e := some i, told := [v] })[k]? = some d' ∧ d'.b = d.b ∧ Wins (s.ths.set n ⟨nx, none⟩) d' := by
        intro k d hk hwn
        by_cases e : k = k0
        · subst e
          rw [hk0] at hk; injection hk with hk; subst hk
          exact ⟨_, set_at hk0 _, rfl, .inl ⟨by simp, by rw [hwin0.1 hwn]⟩⟩
        · exact ⟨d, set_get hk (fun e' => e e'.symm) _, rfl, hwn.set (hne hk e)⟩
      have bw : ∀ {k : Nat} {d' : Dg}, ((doings s.evs).set k0 { d0 with e := some i, told := [v] })[k]? = some d' → Wins (s.ths.set n ⟨nx, none⟩) d' → ∃ d, (doings s.evs)[k]? = some d ∧ Wins s.ths d := by
        intro k d' hk hwn
        rcases get_set hk with ⟨rfl, rfl⟩ | ⟨e, hk⟩
        · refine ⟨d0, hk0, hwin0.2 ?_⟩
          rcases hwn with ⟨_, h2⟩ | ⟨h2, _⟩
          · simpa using h2
          · cases h2
        · exact ⟨d', hk, hwn.back (hne hk e)⟩
      refine ⟨.inr hw, fun n' nx' ci t2 hn' => ?_, fun e => absurd (hw.symm.trans e : ([1] : List Int) = [0]) (by decide), fun _ => ?_, fun k d e hk he => ?_, fun j k d d' hj hk hw1 hw2 => ?_, fun k d e hk he => ?_, fun k d hk he => ?_⟩
      · rcases get_set hn' with ⟨_, e⟩ | ⟨_, e⟩
        · cases e
        · exact h.th n' nx' ci t2 e
      · obtain ⟨k, d, a, b, c⟩ := h.w1 hw
        obtain ⟨d', a', b', c'⟩ := fw a c
        exact ⟨k, d', a', by omega, c'⟩
      · rcases get_set hk with ⟨rfl, rfl⟩ | ⟨hkk, hk⟩
        · rcases hv with rfl | rfl
          · right
            refine ⟨rfl, ?_⟩
            obtain ⟨k', d, a, b, c⟩ := h.w1 hw
            obtain ⟨d', a', b', c'⟩ := fw a c
            simp only [Option.some.injEq] at he
            refine ⟨k', d', a', ?_, by omega, c'⟩
            rintro rfl
            rw [hk0] at a; injection a with a; subst a
            exact absurd (hwin0.1 c) (by decide)
          · exact .inl rfl
        · rcases h.z k d e hk he with a | ⟨a, k', d', b1, b2, b3, b4⟩
          · exact .inl a
          · obtain ⟨d2, a', b', c'⟩ := fw b1 b4
            exact .inr ⟨a, k', d2, a', b2, by omega, c'⟩
      · obtain ⟨x, x1, x2⟩ := bw hj hw1
        obtain ⟨y, y1, y2⟩ := bw hk hw2
        exact h.u j k x y x1 y1 x2 y2
      · rcases get_set hk with ⟨rfl, rfl⟩ | ⟨hkk, hk⟩
        · simp only [Option.some.injEq] at he
          subst he
          obtain ⟨nx', t2, h1, h2⟩ := h.c2 k d0 hk0 he0
          show cnt l d0.b (i + 1) d0.t = 3
          rw [cnt_next hi (Nat.le_of_lt_succ (hD.time k d0 hk0).1), h2, if_pos ht0.symm]
          rw [ht0, hn] at h1
          injection h1 with h1; injection h1 with _ h1; injection h1 with h1; injection h1 with _ h1
          rw [← h1]; rfl
        · exact h.c1 k d e hk he
      · rcases get_set hk with ⟨rfl, rfl⟩ | ⟨hkk, hk⟩
        · cases he
        · obtain ⟨nx', t2, h1, h2⟩ := h.c2 k d hk he
          have hdn := hne hk hkk he
          exact ⟨nx', t2, set_get h1 (fun e => hdn e.symm) _, by rw [cnt_next hi (Nat.le_of_lt_succ (hD.time k d hk).1), h2, if_neg (fun e => hdn e.symm)]; rfl⟩
theorem once_start (l : List Nat) : OI l 0 (pinit onceMach).ths onceMach.words [] := by
  have hp : ∀ (n : Nat) (p : PT), (pinit onceMach).ths[n]? = some p → p = ⟨0, none⟩ := by
    intro n p h
    unfold pinit at h
    simp only [List.getElem?_replicate] at h
    split at h
    · injection h with h; exact h.symm
    · cases h
  refine ⟨.inl rfl, fun n nx ci t h => (by cases hp _ _ h), fun _ k d h => (by simp at h), fun e => absurd e (by decide), fun k d e h => (by simp at h), fun j k d d' h => (by simp at h), fun k d e h => (by simp at h), fun k d h => by simp at h⟩
theorem once_play (l : List Nat) : OI l l.length (play onceMach l).ths (play onceMach l).words (doings (play onceMach l).evs) ∧ NoErr (play onceMach l).evs := (once_keeps l).play (once_start l)
end Go.Proofs.YtnoinojhocicjaaDoor
