/-
  Package count: who is alone ends; plain laws.
-/
import Derived.Test.YtnoinojhocicjaaDoorCountLaw
namespace Go.Proofs.YtnoinojhocicjaaDoor
open Go.RowKit
set_option linter.unusedVariables false

/-! ### one step of one of several threads -/
section
variable {m : Mach} {s : PS} {i n nx ci : Nat} {ws' : List Int} {calls : List VCall} {c : VCall} {t t' : Th}
theorem mstep_begin (hn : s.ths[n]? = some ⟨nx, none⟩) (hm : m.threads[n]? = some calls) (hc : calls[nx]? = some c) (hv : vstep (m.codes.getD c.code []) (vbegin (m.codes.getD c.code []).length c.args) s.words = (t', ws')) (ho : t'.over = false) :
    pstep m i n s = ⟨s.ths.set n ⟨nx + 1, some (c.code, t')⟩, ws', s.evs ++ [⟨i, n, nx, false, 0, []⟩]⟩ := by
  unfold pstep
  rw [hn, hm]
  simp only [pbeg, hc, pact, hv, ho, Bool.false_eq_true, if_false]
theorem mstep_cont (hn : s.ths[n]? = some ⟨nx, some (ci, t)⟩) (hm : m.threads[n]? = some calls) (hv : vstep (m.codes.getD ci []) t s.words = (t', ws')) (ho : t'.over = false) :
    pstep m i n s = ⟨s.ths.set n ⟨nx, some (ci, t')⟩, ws', s.evs⟩ := by
  unfold pstep
  rw [hn, hm]
  simp only [pbeg, pact, hv, ho, Bool.false_eq_true, if_false, List.append_nil]
theorem mstep_fin (hn : s.ths[n]? = some ⟨nx, some (ci, t)⟩) (hm : m.threads[n]? = some calls) (hv : vstep (m.codes.getD ci []) t s.words = (t', ws')) (ho : t'.over = true) :
    pstep m i n s = ⟨s.ths.set n ⟨nx, none⟩, ws', s.evs ++ [⟨i, n, nx - 1, true, t'.err, t'.told⟩]⟩ := by
  unfold pstep
  rw [hn, hm]
  simp only [pbeg, pact, hv, ho, if_true, List.nil_append]
theorem mstep_idle (hn : s.ths[n]? = some ⟨nx, none⟩) (hm : m.threads[n]? = some calls) (hc : calls[nx]? = none) : pstep m i n s = s := by
  unfold pstep
  rw [hn, hm]
  simp only [pbeg, hc, pact]
end
theorem mstep_other (m : Mach) (s : PS) (i n j : Nat) (h : j ≠ n) : (pstep m i n s).ths[j]? = s.ths[j]? := by
  unfold pstep
  split
  · unfold pact
    split
    · rfl
    · split
      · show (s.ths.set n _)[j]? = _
        rw [List.getElem?_set, if_neg (fun e => h e.symm)]
      · show (s.ths.set n _)[j]? = _
        rw [List.getElem?_set, if_neg (fun e => h e.symm)]
  · rfl
theorem play_snoc (m : Mach) (a : List Nat) (n : Nat) : play m (a ++ [n]) = pstep m a.length n (play m a) := by
  unfold play; rw [prun_snoc, Nat.zero_add]
/-- a thread that has ended all its calls -/
def DoneT (m : Mach) (s : PS) (n : Nat) : Prop := ∃ nx calls, s.ths[n]? = some ⟨nx, none⟩ ∧ m.threads[n]? = some calls ∧ calls.length ≤ nx
theorem DoneT.step {m : Mach} {s : PS} {j : Nat} (h : DoneT m s j) (i n : Nat) : DoneT m (pstep m i n s) j := by
  obtain ⟨nx, calls, h1, h2, h3⟩ := h
  by_cases e : j = n
  · subst e
    rw [mstep_idle h1 h2 (List.getElem?_eq_none h3)]
    exact ⟨nx, calls, h1, h2, h3⟩
  · exact ⟨nx, calls, by rw [mstep_other m s i n j e]; exact h1, h2, h3⟩
theorem DoneT.more {m : Mach} {a : List Nat} {j : Nat} (h : DoneT m (play m a) j) (n : Nat) : ∀ k, DoneT m (play m (a ++ List.replicate k n)) j
  | 0 => by rw [List.replicate_zero, List.append_nil]; exact h
  | k + 1 => by
    rw [List.replicate_succ', ← List.append_assoc, play_snoc]
    exact (DoneT.more h n k).step _ _
/-- how many steps alone a thread needs to its end -/
def remT (v : Int) (ci : Nat) (t : Th) : Nat := if ci = 1 then 2 - t.pc else if t.pc = 0 then 5 else if t.pc = 1 then (if t.regs.getD 1 0 = v then 4 else 8) else if t.pc = 2 then (if t.regs.getD 1 0 = v then 3 else 7) else if t.pc = 3 then (if t.regs.getD 3 0 = 1 then 2 else 6) else 1
def remP (v : Int) (len : Nat) (p : PT) : Nat := 5 * (len - p.next) + match p.cur with | none => 0 | some (ci, t) => remT v ci t
def RemLe (m : Mach) (s : PS) (n r : Nat) : Prop := ∃ v p calls, s.words = [v] ∧ s.ths[n]? = some p ∧ m.threads[n]? = some calls ∧ remP v calls.length p ≤ r
theorem RemLe.step {m : Mach} (hm : CntM m) {s : PS} {i0 i n r : Nat} (hI : KI m i0 s.ths s.words (doings s.evs)) (hi0 : i0 ≤ 6000) (h : RemLe m s n (r + 1)) : RemLe m (pstep m i n s) n r := by
  obtain ⟨v, ⟨nx, cur⟩, calls, hw, hn, hc, hr⟩ := h
  obtain ⟨v', hv', KVh⟩ := hI
  rw [hw] at hv'
  injection hv' with hv'
  subst hv'
  have hv0 := KVh.v0
  unfold remP at hr
  cases cur with
  | none =>
    simp only [Nat.add_zero] at hr
    cases hcc : calls[nx]? with
    | none =>
      have hl := List.getElem?_eq_none_iff.1 hcc
      rw [mstep_idle hn hc hcc]
      refine ⟨v, _, calls, hw, hn, hc, ?_⟩
      unfold remP; simp only; omega
    | some c =>
      have hl := (List.getElem?_eq_some_iff.1 hcc).1
      rcases hm.call n calls nx c hc hcc with rfl | ⟨a, rfl, h1, h2⟩
      · rw [mstep_begin hn hc hcc (t' := getTh 1 v) (ws' := [v]) (by show vstep (m.codes.getD 1 []) (vbegin (m.codes.getD 1 []).length []) _ = _; rw [hm.c1, get_begin, hw, get_0]) rfl]
        refine ⟨v, _, calls, rfl, set_at hn _, hc, ?_⟩
        unfold remP; simp only
        have : remT v 1 (getTh 1 v) = 1 := rfl
        rw [this]; omega
      · rw [mstep_begin hn hc hcc (t' := addTh 1 a v 0) (ws' := [v]) (by show vstep (m.codes.getD 0 []) (vbegin (m.codes.getD 0 []).length [a]) _ = _; rw [hm.c0, add_begin, hw, add_0]) rfl]
        refine ⟨v, _, calls, rfl, set_at hn _, hc, ?_⟩
        unfold remP; simp only
        have : remT v 0 (addTh 1 a v 0) = 4 := by simp [remT, addTh]
        rw [this]; omega
  | some x =>
    obtain ⟨ci, t⟩ := x
    simp only at hr
    obtain ⟨hnx, c, hcall, htf⟩ := KVh.th n nx ci t hn
    have goc : ∀ (t' : Th) (v' : Int), vstep (m.codes.getD ci []) t [v] = (t', [v']) → t'.over = false → remT v' ci t' + 1 ≤ remT v ci t → RemLe m (pstep m i n s) n r := by
      intro t' v' h1 h2 h3
      rw [mstep_cont hn hc (by rw [hw]; exact h1) h2]
      refine ⟨v', _, calls, rfl, set_at hn _, hc, ?_⟩
      unfold remP; simp only; omega
    have gof : ∀ (t' : Th), vstep (m.codes.getD ci []) t [v] = (t', [v]) → t'.over = true → 1 ≤ remT v ci t → RemLe m (pstep m i n s) n r := by
      intro t' h1 h2 h3
      rw [mstep_fin hn hc (by rw [hw]; exact h1) h2]
      refine ⟨v, _, calls, rfl, set_at hn _, hc, ?_⟩
      unfold remP; simp only; omega
    rcases htf with ⟨rfl, rfl, htf⟩ | ⟨a, rfl, ha1, ha5, rfl, htf⟩
    · rcases htf with rfl | ⟨o, rfl, h0, h1⟩
      · exact goc (getTh 1 v) v (by rw [hm.c1, get_0]) rfl (by simp [remT, getTh])
      · exact gof _ (by rw [hm.c1, get_1]) rfl (by simp [remT, getTh])
    · rcases htf with ⟨o, z, rfl⟩ | ⟨o, z, rfl, h0, h1⟩ | ⟨o, rfl, h0, h1⟩ | ⟨o, rfl⟩ | ⟨o, rfl, h0, h1⟩ | ⟨o, rfl, h0, h1⟩
      · exact goc (addTh 1 a v z) v (by rw [hm.c0, add_0]) rfl (by simp [remT, addTh])
      · refine goc (addTh 2 a o (o + a)) v (by rw [hm.c0, add_1, wrap_small (by omega) (by omega)]) rfl ?_
        simp only [remT, addTh]
        simp only [List.getD_cons_succ, List.getD_cons_zero]
        by_cases e : o = v <;> simp [e]
      · by_cases e : v = o
        · subst e
          exact goc (addTh 3 a v 1) (v + a) (by rw [hm.c0, add_2, if_pos rfl]) rfl (by simp [remT, addTh])
        · exact goc (addTh 3 a o 0) v (by rw [hm.c0, add_2, if_neg e]) rfl (by simp [remT, addTh, Ne.symm e])
      · exact goc (addTh 0 a o 0) v (by rw [hm.c0, add_3b]) rfl (by simp [remT, addTh])
      · exact goc (addTh 4 a o 1) v (by rw [hm.c0, add_3a]) rfl (by simp [remT, addTh])
      · exact gof _ (by rw [hm.c0, add_4]) rfl (by simp [remT, addTh])
theorem RemLe.run {m : Mach} (hm : CntM m) {a : List Nat} {n r : Nat} (h : RemLe m (play m a) n r) : ∀ k, k ≤ r → a.length + k ≤ 6000 → RemLe m (play m (a ++ List.replicate k n)) n (r - k)
  | 0, _, _ => by rw [List.replicate_zero, List.append_nil]; exact h
  | k + 1, hk, hl => by
    have ih := RemLe.run hm h k (by omega) (by omega)
    rw [List.replicate_succ', ← List.append_assoc, play_snoc]
    have e : r - k = (r - (k + 1)) + 1 := by omega
    rw [e] at ih
    refine RemLe.step hm (count_play hm _ ?_).1 ?_ ih
    · rw [List.length_append, List.length_replicate]; omega
    · rw [List.length_append, List.length_replicate]; omega
theorem RemLe.done {m : Mach} {s : PS} {n : Nat} (h : RemLe m s n 0) (hpos : ∀ nx ci t, s.ths[n]? = some ⟨nx, some (ci, t)⟩ → ∀ v, 1 ≤ remT v ci t) : DoneT m s n := by
  obtain ⟨v, ⟨nx, cur⟩, calls, hw, hn, hc, hr⟩ := h
  unfold remP at hr
  cases cur with
  | none => exact ⟨nx, calls, hn, hc, by simp only at hr; omega⟩
  | some x => obtain ⟨ci, t⟩ := x; simp only at hr; have := hpos nx ci t hn v; omega
theorem rem_pos {v v' : Int} {c : VCall} {ci : Nat} {t : Th} (h : TF v c ci t) : 1 ≤ remT v' ci t ∧ remT v' ci t ≤ 8 := by
  rcases h with ⟨rfl, rfl, htf⟩ | ⟨a, rfl, ha1, ha5, rfl, htf⟩
  · rcases htf with rfl | ⟨o, rfl, h0, h1⟩ <;> simp [remT, getTh]
  · rcases htf with ⟨o, z, rfl⟩ | ⟨o, z, rfl, h0, h1⟩ | ⟨o, rfl, h0, h1⟩ | ⟨o, rfl⟩ | ⟨o, rfl, h0, h1⟩ | ⟨o, rfl, h0, h1⟩
    all_goals
      simp only [remT, addTh, List.getD_cons_succ, List.getD_cons_zero]
      first
        | (simp; done)
        | (by_cases e : o = v' <;> simp [e])
/-- a thread alone for long enough ends all its calls -/
theorem alone_done {m : Mach} (hm : CntM m) {a : List Nat} {n : Nat} {calls : List VCall} (hn : n < m.threads.length) (hc : m.threads[n]? = some calls) (hlen : calls.length ≤ 9) (k : Nat) (hk : 53 ≤ k) (hl : a.length + k ≤ 6000) : DoneT m (play m (a ++ List.replicate k n)) n := by
  have hI := (count_play hm a (by omega)).1
  obtain ⟨v, hw, K⟩ := hI
  have hT : (play m a).ths.length = m.threads.length := by
    have : ∀ (l : List Nat) (i : Nat) (s : PS), (prun m i l s).ths.length = s.ths.length := by
      intro l
      induction l with
      | nil => intro i s; rfl
      | cons x l ih => intro i s; rw [prun, ih, pstep_len]
    unfold play; rw [this]; simp [pinit]
  obtain ⟨p, hp⟩ : ∃ p, (play m a).ths[n]? = some p := ⟨_, List.getElem?_eq_getElem (by omega)⟩
  have h0 : RemLe m (play m a) n 53 := by
    refine ⟨v, p, calls, hw, hp, hc, ?_⟩
    unfold remP
    obtain ⟨nx, cur⟩ := p
    cases cur with
    | none => simp only; omega
    | some x =>
      obtain ⟨ci, t⟩ := x
      obtain ⟨_, c, _, htf⟩ := K.th n nx ci t hp
      have := (rem_pos (v' := v) htf).2
      simp only; omega
  have h1 := h0.run hm 53 (Nat.le_refl _) (by omega)
  have h2 : DoneT m (play m (a ++ List.replicate 53 n)) n := by
    refine RemLe.done h1 fun nx ci t ht v' => ?_
    obtain ⟨v2, _, K2⟩ := (count_play hm (a ++ List.replicate 53 n) (by rw [List.length_append, List.length_replicate]; omega)).1
    obtain ⟨_, c, _, htf⟩ := K2.th n nx ci t ht
    exact (rem_pos htf).1
  have h3 := h2.more n (k - 53)
  rw [List.append_assoc, List.replicate_append_replicate, show 53 + (k - 53) = k by omega] at h3
  exact h3
end Go.Proofs.YtnoinojhocicjaaDoor
