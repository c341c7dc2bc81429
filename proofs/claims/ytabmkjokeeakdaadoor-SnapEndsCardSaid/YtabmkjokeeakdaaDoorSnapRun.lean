/-
  Package snap: all runs of Puts and Scans; a Scan alone behind a schedule; plain laws.
-/
import Derived.Test.YtabmkjokeeakdaaDoorSnapLaw
namespace Go.Proofs.YtabmkjokeeakdaaDoor
open Go.RowKit
set_option linter.unusedVariables false

structure SI (l : List Nat) (n T : Nat) (i : Nat) (ths : List PT) (ws : List Int) (ds : List Dg) : Prop where
  len : ws.length = n
  put : ∀ j nx ci t, j < T → ths[j]? = some ⟨nx, some (ci, t)⟩ → ci = 0 ∧ NPut n t
  get : ∀ j nx ci t, T ≤ j → ths[j]? = some ⟨nx, some (ci, t)⟩ → ci = 1 ∧ NGet n t
  c1 : ∀ (k : Nat) (d : Dg) (e : Nat), ds[k]? = some d → d.t < T → d.e = some e → cnt l d.b (e + 1) d.t ≤ 7
  c2 : ∀ (k : Nat) (d : Dg), ds[k]? = some d → d.t < T → d.e = none → ∃ (nx ci : Nat) (t : Th), ths[d.t]? = some ⟨nx, some (ci, t)⟩ ∧ cnt l d.b i d.t ≤ t.pc
theorem snap_keeps {m : Mach} {n T : Nat} (h1 : 1 ≤ n) (h4 : n ≤ 4) (hM : SnM m n T) (l : List Nat) : PKeeps m l (SI l n T) where
  idle := by
    intro i s n' hi hD h hn
    refine ⟨h.len, h.put, h.get, h.c1, fun k d hk ht he => ?_⟩
    obtain ⟨nx, ci, t, g1, g2⟩ := h.c2 k d hk ht he
    refine ⟨nx, ci, t, g1, ?_⟩
    rw [cnt_next hi (Nat.le_of_lt (hD.time k d hk).1), if_neg, Nat.add_zero]
    · exact g2
    · intro e
      rw [← e] at g1
      exact absurd (hn _ g1) (by simp)
  begin_ := by
    intro i s n' nx calls c hi hD h hn hc hcc
    have hmem := List.mem_of_getElem? hcc
    refine ⟨h.len, fun j nx' ci t hj hn' => ?_, fun j nx' ci t hj hn' => ?_, fun k d e hk ht he => ?_, fun k d hk ht he => ?_⟩
    · rcases get_set hn' with ⟨e0, e⟩ | ⟨_, e⟩
      · subst e0
        injection e with e2 e; injection e with e; injection e with e3 e4
        subst e2 e3 e4
        obtain ⟨p, q, hp, rfl⟩ := hM.lo j calls c hj hc hmem
        refine ⟨rfl, ?_⟩
        show NPut n (vbegin (m.codes.getD 0 []).length [(p : Int), (q : Int)])
        rw [hM.put]
        exact NPut.begin hp
      · exact h.put j nx' ci t hj e
    · rcases get_set hn' with ⟨e0, e⟩ | ⟨_, e⟩
      · subst e0
        injection e with e2 e; injection e with e; injection e with e3 e4
        subst e2 e3 e4
        obtain rfl := hM.hi j calls c hj hc hmem
        refine ⟨rfl, ?_⟩
        show NGet n (vbegin (m.codes.getD 1 []).length [])
        rw [hM.scan]
        exact NGet.begin h1 h4
      · exact h.get j nx' ci t hj e
    · rcases get_snoc hk with hk | ⟨_, rfl⟩
      · exact h.c1 k d e hk ht he
      · cases he
    · rcases get_snoc hk with hk | ⟨_, rfl⟩
      · obtain ⟨nx', ci, t, g1, g2⟩ := h.c2 k d hk ht he
        exact ⟨nx', ci, t, set_get g1 (fun e => hD.rest hn hk he e.symm) _, g2⟩
      · exact ⟨nx + 1, c.code, _, set_at hn _, by rw [cnt_self]; exact Nat.zero_le _⟩
  cont := by
    intro i s n' nx ci t hi hD h hn hov
    by_cases e0 : n' < T
    · obtain ⟨rfl, g⟩ := h.put n' nx ci t e0 hn
      have hv : vstep (m.codes.getD 0 []) t s.words = pnext t s.words := by rw [hM.put]; exact npstep h4 g h.len
      rw [hv] at hov ⊢
      obtain ⟨g1, g2, g3⟩ := pnext_keep g hov
      refine ⟨by rw [pnext_len]; exact h.len, fun j nx' ci t' hj hn' => ?_, fun j nx' ci t' hj hn' => ?_, h.c1, fun k d hk ht he => ?_⟩
      · rcases get_set hn' with ⟨_, e⟩ | ⟨_, e⟩
        · injection e with e2 e; injection e with e; injection e with e3 e4
          subst e2 e3 e4
          exact ⟨rfl, g1⟩
        · exact h.put j nx' ci t' hj e
      · rcases get_set hn' with ⟨e, _⟩ | ⟨_, e⟩
        · omega
        · exact h.get j nx' ci t' hj e
      · obtain ⟨nx', ci', t2, g4, g5⟩ := h.c2 k d hk ht he
        have hb := Nat.le_of_lt_succ (hD.time k d hk).1
        by_cases e : d.t = n'
        · rw [e, hn] at g4
          injection g4 with g4; injection g4 with _ g4; injection g4 with g4; injection g4 with _ g4
          subst g4
          refine ⟨nx, 0, _, by rw [e]; exact set_at hn _, ?_⟩
          rw [cnt_next hi hb, if_pos e.symm, g2]
          omega
        · exact ⟨nx', ci', t2, set_get g4 (fun e' => e e'.symm) _, by rw [cnt_next hi hb, if_neg (fun e' => e e'.symm)]; exact g5⟩
    · obtain ⟨rfl, g⟩ := h.get n' nx ci t (by omega) hn
      have hv : vstep (m.codes.getD 1 []) t s.words = (snext n t s.words, s.words) := by rw [hM.scan]; exact nsstep h1 h4 g h.len
      rw [hv] at hov ⊢
      refine ⟨h.len, fun j nx' ci t' hj hn' => ?_, fun j nx' ci t' hj hn' => ?_, h.c1, fun k d hk ht he => ?_⟩
      · rcases get_set hn' with ⟨e, _⟩ | ⟨_, e⟩
        · omega
        · exact h.put j nx' ci t' hj e
      · rcases get_set hn' with ⟨_, e⟩ | ⟨_, e⟩
        · injection e with e2 e; injection e with e; injection e with e3 e4
          subst e2 e3 e4
          exact ⟨rfl, (snext_keep h1 h4 s.words g hov).1⟩
        · exact h.get j nx' ci t' hj e
      · obtain ⟨nx', ci', t2, g4, g5⟩ := h.c2 k d hk ht he
        have hne : n' ≠ d.t := by omega
        exact ⟨nx', ci', t2, set_get g4 hne _, by rw [cnt_next hi (Nat.le_of_lt_succ (hD.time k d hk).1), if_neg hne]; exact g5⟩
  fin_ := by
    intro i s n' nx ci t k0 d0 hi hD h hn hov hk0 ht0 hdc0 he0 htold
    by_cases e0 : n' < T
    · obtain ⟨rfl, g⟩ := h.put n' nx ci t e0 hn
      have hv : vstep (m.codes.getD 0 []) t s.words = pnext t s.words := by rw [hM.put]; exact npstep h4 g h.len
      rw [hv] at hov ⊢
      obtain ⟨g1, g2, _⟩ := pnext_over g hov
      refine ⟨⟨by rw [pnext_len]; exact h.len, fun j nx' ci t' hj hn' => ?_, fun j nx' ci t' hj hn' => ?_, fun k d e hk ht he => ?_, fun k d hk ht he => ?_⟩, g2⟩
      · rcases get_set hn' with ⟨_, e⟩ | ⟨_, e⟩
        · cases e
        · exact h.put j nx' ci t' hj e
      · rcases get_set hn' with ⟨_, e⟩ | ⟨_, e⟩
        · cases e
        · exact h.get j nx' ci t' hj e
      · rcases get_set hk with ⟨rfl, rfl⟩ | ⟨_, hk2⟩
        · simp only [Option.some.injEq] at he
          subst he
          obtain ⟨nx', ci', t2, g4, g5⟩ := h.c2 k d0 hk0 ht he0
          rw [ht0, hn] at g4
          injection g4 with g4; injection g4 with _ g4; injection g4 with g4; injection g4 with _ g4
          subst g4
          show cnt l d0.b (i + 1) d0.t ≤ 7
          rw [cnt_next hi (Nat.le_of_lt_succ (hD.time k d0 hk0).1), if_pos ht0.symm]
          omega
        · exact h.c1 k d e hk2 ht he
      · rcases get_set hk with ⟨rfl, rfl⟩ | ⟨hkk, hk2⟩
        · cases he
        · obtain ⟨nx', ci', t2, g4, g5⟩ := h.c2 k d hk2 ht he
          have hne : n' ≠ d.t := fun e => hkk (hD.own hn hk2 hk0 e.symm ht0 he he0)
          exact ⟨nx', ci', t2, set_get g4 hne _, by rw [cnt_next hi (Nat.le_of_lt_succ (hD.time k d hk2).1), if_neg hne]; exact g5⟩
    · obtain ⟨rfl, g⟩ := h.get n' nx ci t (by omega) hn
      have hv : vstep (m.codes.getD 1 []) t s.words = (snext n t s.words, s.words) := by rw [hM.scan]; exact nsstep h1 h4 g h.len
      rw [hv] at hov ⊢
      refine ⟨⟨h.len, fun j nx' ci t' hj hn' => ?_, fun j nx' ci t' hj hn' => ?_, fun k d e hk ht he => ?_, fun k d hk ht he => ?_⟩, (snext_over s.words g hov).2⟩
      · rcases get_set hn' with ⟨_, e⟩ | ⟨_, e⟩
        · cases e
        · exact h.put j nx' ci t' hj e
      · rcases get_set hn' with ⟨_, e⟩ | ⟨_, e⟩
        · cases e
        · exact h.get j nx' ci t' hj e
      · rcases get_set hk with ⟨rfl, rfl⟩ | ⟨_, hk2⟩
        · exact absurd (show d0.t < T from ht) (by omega)
        · exact h.c1 k d e hk2 ht he
      · rcases get_set hk with ⟨rfl, rfl⟩ | ⟨hkk, hk2⟩
        · cases he
        · obtain ⟨nx', ci', t2, g4, g5⟩ := h.c2 k d hk2 ht he
          have hne : n' ≠ d.t := by omega
          exact ⟨nx', ci', t2, set_get g4 hne _, by rw [cnt_next hi (Nat.le_of_lt_succ (hD.time k d hk2).1), if_neg hne]; exact g5⟩
theorem SI.start {m : Mach} {n T : Nat} (hM : SnM m n T) (l : List Nat) : SI l n T 0 (pinit m).ths m.words [] := by
  have hz : ∀ (j nx ci : Nat) (t : Th), (pinit m).ths[j]? ≠ some (⟨nx, some (ci, t)⟩ : PT) := by
    intro j nx ci t h
    unfold pinit at h
    simp only [List.getElem?_replicate] at h
    split at h
    · injection h with h; injection h with _ h; cases h
    · cases h
  exact ⟨hM.words, fun j nx ci t _ h => absurd h (hz _ _ _ _), fun j nx ci t _ h => absurd h (hz _ _ _ _), fun k d e h => by simp at h, fun k d h => by simp at h⟩
structure SnapOk (q : Nat) (l : List Nat) (ds : List Dg) : Prop where
  put : ∀ (k : Nat) (d : Dg), ds[k]? = some d → d.t < 2 → cnt l d.b (match d.e with | none => l.length | some e => e + 1) d.t ≤ 80
  get : ∀ (k : Nat) (d : Dg), ds[k]? = some d → d.t = 2 → d.b < q + 250 → ∃ e, d.e = some e ∧ e < max q d.b + 50
theorem snap_ends {n : Nat} (h1 : 1 ≤ n) (h4 : n ≤ 4) (cs : List Int) (a : List Nat) :
    SnapOk a.length (a ++ List.replicate 500 2) (doings (play (nmach n cs) (a ++ List.replicate 500 2)).evs) ∧ NoErr (play (nmach n cs) (a ++ List.replicate 500 2)).evs := by
  have hM := nmach_snm h1 h4 cs
  obtain ⟨hI, hN⟩ := (snap_keeps h1 h4 hM (a ++ List.replicate 500 2)).play (SI.start hM _)
  obtain ⟨hA, hNa⟩ := (snap_keeps h1 h4 hM a).play (SI.start hM _)
  have hD := play_di (nmach n cs) (a ++ List.replicate 500 2)
  refine ⟨⟨fun k d hk ht => ?_, fun k d hk ht hb => ?_⟩, hN⟩
  · cases he : d.e with
    | some e =>
      have := hI.c1 k d e hk ht he
      simp only
      omega
    | none =>
      obtain ⟨nx, ci, t, g1, g2⟩ := hI.c2 k d hk ht he
      have := (hI.put d.t nx ci t ht g1).2.pc
      simp only
      omega
  · obtain ⟨W, hW⟩ : ∃ W, (play (nmach n cs) a).words = W := ⟨_, rfl⟩
    have hl : W.length = n := by rw [← hW]; exact hA.len
    have hQ := (quiet_play (m := nmach n cs) (a := a) (q := 500) (τ := 2) (B := 50) (P := fun _ ws => ws = W) (fun nx calls c ws hc hcc hws => by
      obtain rfl : ws = W := hws
      obtain rfl := hM.hi 2 calls c (Nat.le_refl _) hc (List.mem_of_getElem? hcc)
      obtain ⟨m, t', m1, m2, m3⟩ := NGet.ends h1 h4 hl (6 * n + 1) _ (NGet.begin h1 h4) (by omega)
      exact ⟨m, t', ws, by omega, m2, m3, rfl⟩) hNa (fun nx' _ => hW) (fun nx ci t ht => by
      obtain ⟨rfl, g⟩ := hA.get 2 nx ci t (Nat.le_refl _) ht
      obtain ⟨m, t', m1, m2, m3⟩ := NGet.ends h1 h4 hA.len (6 * n + 1) _ g (by omega)
      exact ⟨m, t', _, by omega, m2, m3, hW⟩)).1
    rw [List.length_append, List.length_replicate] at hD
    exact hQ.most hD rfl rfl hk ht (by omega) (by omega)
end Go.Proofs.YtabmkjokeeakdaaDoor
