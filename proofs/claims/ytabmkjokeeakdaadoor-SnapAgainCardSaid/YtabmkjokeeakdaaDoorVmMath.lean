/-
  The machine of package vm, as a plain function: one step of a thread. (Draft.)
-/
import Derived.Test.YtabmkjokeeakdaaDoorNum
namespace Go.Proofs.YtabmkjokeeakdaaDoor
open Go.RowKit
set_option linter.unusedVariables false
structure Op5 where
  k : Int
  a : Int
  b : Int
  c : Int
  d : Int
deriving DecidableEq
structure Th where
  regs : List Int
  pc : Nat
  told : List Int
  err : Nat
  over : Bool
deriving DecidableEq
def vget (r : List Int) (i : Int) : Int := r.getD i.toNat 0
def vset (r : List Int) (i : Int) (x : Int) : List Int := r.set i.toNat x
def vquo (a b : Int) (rest : Bool) : Int := if b = 0 then 0 else if rest then Int.tmod a b else wrap64 (Int.tdiv a b)
def vflag (b : Bool) : Int := if b then 1 else 0
/-- Jump .. Cas: what 'other' does; the pc is already one further -/
def vother (o : Op5) (t : Th) (ws : List Int) : Th × List Int :=
  if o.k = 10 then ({ t with pc := o.a.toNat }, ws)
  else if o.k = 11 then (if vget t.regs o.a ≠ 0 then { t with pc := o.b.toNat } else t, ws)
  else if o.k = 12 then (if vget t.regs o.a = 0 then { t with pc := o.b.toNat } else t, ws)
  else if o.k = 16 then (if t.told.length = 200 then { t with err := 8, over := true } else { t with told := t.told ++ [vget t.regs o.a] }, ws)
  else if o.k = 17 then ({ t with over := true }, ws)
  else
    let at_ := wrap64 (vget t.regs o.b + o.c)
    if at_ < 0 ∨ (ws.length : Int) ≤ at_ then ({ t with err := 2, over := true }, ws)
    else if o.k = 13 then ({ t with regs := vset t.regs o.a (vget ws at_) }, ws)
    else if o.k = 14 then (t, vset ws at_ (vget t.regs o.a))
    else if vget ws at_ = vget t.regs o.d then ({ t with regs := vset t.regs o.a 1 }, vset ws at_ (vget t.regs o.a))
    else ({ t with regs := vset t.regs o.a 0 }, ws)
def vdo (o : Op5) (t : Th) (ws : List Int) : Th × List Int :=
  let r := t.regs
  if o.k = 1 then ({ t with regs := vset r o.a o.b }, ws)
  else if o.k = 2 then ({ t with regs := vset r o.a (vget r o.b) }, ws)
  else if o.k = 3 then ({ t with regs := vset r o.a (wrap64 (vget r o.b + vget r o.c)) }, ws)
  else if o.k = 4 then ({ t with regs := vset r o.a (wrap64 (vget r o.b - vget r o.c)) }, ws)
  else if o.k = 5 then ({ t with regs := vset r o.a (wrap64 (vget r o.b * vget r o.c)) }, ws)
  else if o.k = 6 then ({ t with regs := vset r o.a (vquo (vget r o.b) (vget r o.c) false) }, ws)
  else if o.k = 7 then ({ t with regs := vset r o.a (vquo (vget r o.b) (vget r o.c) true) }, ws)
  else if o.k = 8 then ({ t with regs := vset r o.a (vflag (decide (vget r o.b = vget r o.c))) }, ws)
  else if o.k = 9 then ({ t with regs := vset r o.a (vflag (decide (vget r o.b < vget r o.c))) }, ws)
  else vother o t ws
def vstep (code : List Op5) (t : Th) (ws : List Int) : Th × List Int :=
  if t.over then (t, ws) else
  match code[t.pc]? with
  | none => (t, ws)
  | some o =>
    let r := vdo o { t with pc := t.pc + 1 } ws
    ({ r.1 with over := r.1.over || decide (r.1.pc = code.length) }, r.2)
def vrun (code : List Op5) : Nat → Th × List Int → Th × List Int
  | 0, s => s
  | n + 1, s => if s.1.over then s else vrun code n (vstep code s.1 s.2)
def vcount (code : List Op5) : Nat → Th × List Int → Nat
  | 0, _ => 0
  | n + 1, s => if s.1.over then 0 else vcount code n (vstep code s.1 s.2) + 1
theorem vrun_over (code : List Op5) : ∀ (n : Nat) (s : Th × List Int), s.1.over = true → vrun code n s = s ∧ vcount code n s = 0
  | 0, _, _ => ⟨rfl, rfl⟩
  | n + 1, s, h => by unfold vrun vcount; rw [if_pos h, if_pos h]; exact ⟨rfl, rfl⟩
theorem vrun_add (code : List Op5) : ∀ (n m : Nat) (s : Th × List Int), vrun code (n + m) s = vrun code m (vrun code n s) ∧ vcount code (n + m) s = vcount code n s + vcount code m (vrun code n s)
  | 0, m, s => by rw [Nat.zero_add]; exact ⟨rfl, (Nat.zero_add _).symm⟩
  | n + 1, m, s => by
    obtain ⟨h1, h2⟩ := vrun_add code n m (vstep code s.1 s.2)
    by_cases h : s.1.over = true
    · obtain ⟨a1, a2⟩ := vrun_over code (n + 1) s h
      obtain ⟨b1, b2⟩ := vrun_over code (n + 1 + m) s h
      rw [a1, a2, b1, b2, (vrun_over code m s h).1, (vrun_over code m s h).2]; exact ⟨rfl, rfl⟩
    · have e1 : vrun code (n + 1) s = vrun code n (vstep code s.1 s.2) := by rw [vrun, if_neg h]
      have e2 : vrun code (n + m + 1) s = vrun code (n + m) (vstep code s.1 s.2) := by rw [vrun, if_neg h]
      have e3 : vcount code (n + 1) s = vcount code n (vstep code s.1 s.2) + 1 := by rw [vcount, if_neg h]
      have e4 : vcount code (n + m + 1) s = vcount code (n + m) (vstep code s.1 s.2) + 1 := by rw [vcount, if_neg h]
      rw [show n + 1 + m = n + m + 1 by omega, e1, e2, e3, e4, h1, h2]
      exact ⟨rfl, by omega⟩
theorem vcount_le (code : List Op5) : ∀ (n : Nat) (s : Th × List Int), vcount code n s ≤ n ∧ ((vrun code n s).1.over = false → vcount code n s = n)
  | 0, s => ⟨Nat.le_refl _, fun _ => rfl⟩
  | n + 1, s => by
    obtain ⟨h1, h2⟩ := vcount_le code n (vstep code s.1 s.2)
    by_cases h : s.1.over = true
    · obtain ⟨a1, a2⟩ := vrun_over code (n + 1) s h
      rw [a1, a2]
      exact ⟨Nat.zero_le _, fun h3 => by rw [h] at h3; cases h3⟩
    · rw [vrun, vcount, if_neg h, if_neg h]
      exact ⟨by omega, fun h3 => by rw [h2 h3]⟩
theorem vother_told (o : Op5) (t : Th) (ws : List Int) : ∃ u, (vother o t ws).1.told = t.told ++ u := by
  unfold vother
  split
  · exact ⟨[], by simp⟩
  · split
    · split <;> exact ⟨[], by simp⟩
    · split
      · split <;> exact ⟨[], by simp⟩
      · split
        · split
          · exact ⟨[], by simp⟩
          · exact ⟨_, rfl⟩
        · split
          · exact ⟨[], by simp⟩
          · simp only
            split
            · exact ⟨[], by simp⟩
            · split
              · exact ⟨[], by simp⟩
              · split
                · exact ⟨[], by simp⟩
                · split <;> exact ⟨[], by simp⟩
theorem vdo_told (o : Op5) (t : Th) (ws : List Int) : ∃ u, (vdo o t ws).1.told = t.told ++ u := by
  unfold vdo
  simp only
  iterate 9 (split; exact ⟨[], by simp⟩)
  exact vother_told o t ws
theorem vstep_told (code : List Op5) (t : Th) (ws : List Int) : ∃ u, (vstep code t ws).1.told = t.told ++ u := by
  unfold vstep
  split
  · exact ⟨[], by simp⟩
  · split
    · exact ⟨[], by simp⟩
    · rename_i o _
      obtain ⟨u, hu⟩ := vdo_told o { t with pc := t.pc + 1 } ws
      exact ⟨u, hu⟩
theorem vrun_told (code : List Op5) : ∀ (n : Nat) (s : Th × List Int), ∃ u, (vrun code n s).1.told = s.1.told ++ u
  | 0, s => ⟨[], by simp [vrun]⟩
  | n + 1, s => by
    unfold vrun
    split
    · exact ⟨[], by simp⟩
    · obtain ⟨u, hu⟩ := vstep_told code s.1 s.2
      obtain ⟨v, hv⟩ := vrun_told code n (vstep code s.1 s.2)
      exact ⟨u ++ v, by rw [hv, hu, List.append_assoc]⟩
/-! ### codes that change only registers 0 to 3, and words at register 5 alone -/
theorem vset_far (r : List Int) (a x : Int) (i : Nat) (h : a.toNat ≠ i) : (vset r a x).getD i 0 = r.getD i 0 := by
  unfold vset
  rw [List.getD_eq_getElem?_getD, List.getD_eq_getElem?_getD, List.getElem?_set_ne h]
theorem vset_len (r : List Int) (a x : Int) : (vset r a x).length = r.length := by unfold vset; rw [List.length_set]
def OpReg (o : Op5) : Prop := o.k ≠ 10 → o.k ≠ 17 → 0 ≤ o.a ∧ o.a < 4
theorem vother_far (o : Op5) (t : Th) (ws : List Int) (h : OpReg o) (i : Nat) (hi : 4 ≤ i) : (vother o t ws).1.regs.getD i 0 = t.regs.getD i 0 ∧ (vother o t ws).1.regs.length = t.regs.length := by
  unfold vother
  simp only
  repeat' split
  all_goals first
    | exact ⟨rfl, rfl⟩
    | exact ⟨vset_far _ _ _ _ (by have := h (by omega) (by omega); omega), vset_len _ _ _⟩
theorem vdo_far (o : Op5) (t : Th) (ws : List Int) (h : OpReg o) (i : Nat) (hi : 4 ≤ i) : (vdo o t ws).1.regs.getD i 0 = t.regs.getD i 0 ∧ (vdo o t ws).1.regs.length = t.regs.length := by
  unfold vdo
  simp only
  iterate 9 (split; exact ⟨vset_far _ _ _ _ (by have := h (by omega) (by omega); omega), vset_len _ _ _⟩)
  exact vother_far o t ws h i hi
theorem vother_words (o : Op5) (t : Th) (ws : List Int) (j : Nat) (h5 : t.regs.getD 5 0 = 0) (hb : o.k = 14 ∨ o.k = 15 → o.b = 5 ∧ 0 ≤ o.c ∧ o.c < 9223372036854775808 ∧ o.c.toNat ≠ j) (hk : 1 ≤ o.k ∧ o.k ≤ 17) (hk9 : 9 < o.k) : (vother o t ws).2.getD j 0 = ws.getD j 0 ∧ (vother o t ws).2.length = ws.length := by
  have hset : ∀ x, o.k = 14 ∨ o.k = 15 → (vset ws (wrap64 (vget t.regs o.b + o.c)) x).getD j 0 = ws.getD j 0 := fun x h => by
    obtain ⟨h1, h2, h3, h4⟩ := hb h
    have e : wrap64 (vget t.regs o.b + o.c) = o.c := by
      rw [h1]
      unfold vget
      rw [show (5 : Int).toNat = 5 from rfl, h5, Int.zero_add]
      exact IntWalk.wrap64_in _ ⟨by omega, by omega⟩
    rw [e]
    exact vset_far ws o.c x j h4
  unfold vother
  simp only
  repeat' split
  all_goals first
    | exact ⟨rfl, rfl⟩
    | exact ⟨hset _ (by omega), vset_len _ _ _⟩
theorem vdo_words (o : Op5) (t : Th) (ws : List Int) (j : Nat) (h5 : t.regs.getD 5 0 = 0) (hb : o.k = 14 ∨ o.k = 15 → o.b = 5 ∧ 0 ≤ o.c ∧ o.c < 9223372036854775808 ∧ o.c.toNat ≠ j) (hk : 1 ≤ o.k ∧ o.k ≤ 17) : (vdo o t ws).2.getD j 0 = ws.getD j 0 ∧ (vdo o t ws).2.length = ws.length := by
  unfold vdo
  simp only
  iterate 9 (split; exact ⟨rfl, rfl⟩)
  exact vother_words o t ws j h5 hb hk (by omega)
structure CodeIn (code : List Op5) : Prop where
  reg : ∀ o ∈ code, OpReg o
  kind : ∀ o ∈ code, 1 ≤ o.k ∧ o.k ≤ 17
  word : ∀ o ∈ code, o.k = 14 ∨ o.k = 15 → o.b = 5 ∧ 0 ≤ o.c ∧ o.c < 9223372036854775808
theorem vstep_words (code : List Op5) (hc : CodeIn code) (j : Nat) (hj : ∀ o ∈ code, o.k = 14 ∨ o.k = 15 → o.c.toNat ≠ j) (t : Th) (ws : List Int) (h5 : t.regs.getD 5 0 = 0) :
    (vstep code t ws).2.getD j 0 = ws.getD j 0 ∧ (vstep code t ws).2.length = ws.length ∧ (vstep code t ws).1.regs.getD 5 0 = 0 := by
  unfold vstep
  split
  · exact ⟨rfl, rfl, h5⟩
  · split
    · exact ⟨rfl, rfl, h5⟩
    · rename_i o ho
      have hm := List.mem_of_getElem? ho
      obtain ⟨a1, a2⟩ := vdo_words o { t with pc := t.pc + 1 } ws j h5 (fun h => by obtain ⟨b1, b2, b3⟩ := hc.word o hm h; exact ⟨b1, b2, b3, hj o hm h⟩) (hc.kind o hm)
      obtain ⟨c1, _⟩ := vdo_far o { t with pc := t.pc + 1 } ws (hc.reg o hm) 5 (by omega)
      exact ⟨a1, a2, c1.trans h5⟩
theorem vrun_words (code : List Op5) (hc : CodeIn code) (j : Nat) (hj : ∀ o ∈ code, o.k = 14 ∨ o.k = 15 → o.c.toNat ≠ j) : ∀ (n : Nat) (s : Th × List Int), s.1.regs.getD 5 0 = 0 → (vrun code n s).2.getD j 0 = s.2.getD j 0 ∧ (vrun code n s).2.length = s.2.length
  | 0, s, _ => ⟨rfl, rfl⟩
  | n + 1, s, h5 => by
    unfold vrun
    split
    · exact ⟨rfl, rfl⟩
    · obtain ⟨a1, a2, a3⟩ := vstep_words code hc j hj s.1 s.2 h5
      obtain ⟨b1, b2⟩ := vrun_words code hc j hj n (vstep code s.1 s.2) a3
      exact ⟨b1.trans a1, b2.trans a2⟩
/-! ### words further on -/
def mv (k : Int) (o : Op5) : Op5 := if o.k = 13 ∨ o.k = 14 ∨ o.k = 15 then { o with c := o.c + k } else o
theorem vget_app (f ws : List Int) (c : Int) (h : 0 ≤ c) : vget (f ++ ws) (c + (f.length : Int)) = vget ws c := by
  unfold vget
  rw [List.getD_eq_getElem?_getD, List.getD_eq_getElem?_getD, List.getElem?_append_right (by omega)]
  congr 2; omega
theorem vset_app (f ws : List Int) (c x : Int) (h : 0 ≤ c) : vset (f ++ ws) (c + (f.length : Int)) x = f ++ vset ws c x := by
  unfold vset
  rw [List.set_append_right _ _ (by omega)]
  congr 2; omega
theorem vdo_move (o : Op5) (t : Th) (ws f : List Int) (h5 : t.regs.getD 5 0 = 0) (hk : 1 ≤ o.k ∧ o.k ≤ 17)
    (hw : o.k = 13 ∨ o.k = 14 ∨ o.k = 15 → o.b = 5 ∧ 0 ≤ o.c ∧ o.c < (ws.length : Int) ∧ o.c + (f.length : Int) < 9223372036854775808) :
    vdo (mv f.length o) t (f ++ ws) = ((vdo o t ws).1, f ++ (vdo o t ws).2) := by
  obtain ⟨k, a, b, c, d⟩ := o
  simp only at hk hw
  by_cases hq : k = 13 ∨ k = 14 ∨ k = 15
  · obtain ⟨h1, h2, h3, h4⟩ := hw hq
    subst h1
    have g0 : vget t.regs 5 = 0 := h5
    have e1 : wrap64 (0 + (c + (f.length : Int))) = c + (f.length : Int) := by rw [Int.zero_add]; exact IntWalk.wrap64_in _ ⟨by omega, by omega⟩
    have e2 : wrap64 (0 + c) = c := by rw [Int.zero_add]; exact IntWalk.wrap64_in _ ⟨by omega, by omega⟩
    have n1 : ¬ (c + (f.length : Int) < 0 ∨ ((f ++ ws).length : Int) ≤ c + (f.length : Int)) := by rw [List.length_append]; omega
    have n2 : ¬ (c < 0 ∨ (ws.length : Int) ≤ c) := by omega
    have em : mv f.length ⟨k, a, 5, c, d⟩ = ⟨k, a, 5, c + (f.length : Int), d⟩ := by unfold mv; rw [if_pos hq]
    rw [em]
    rcases hq with rfl | rfl | rfl
    · simp only [vdo, vother, g0, e1, e2, n1, n2, if_false, if_true, vget_app f ws c h2, show ((13 : Int) = 1) = False from eq_false (by decide), show ((13 : Int) = 2) = False from eq_false (by decide), show ((13 : Int) = 3) = False from eq_false (by decide), show ((13 : Int) = 4) = False from eq_false (by decide), show ((13 : Int) = 5) = False from eq_false (by decide), show ((13 : Int) = 6) = False from eq_false (by decide), show ((13 : Int) = 7) = False from eq_false (by decide), show ((13 : Int) = 8) = False from eq_false (by decide), show ((13 : Int) = 9) = False from eq_false (by decide), show ((13 : Int) = 10) = False from eq_false (by decide), show ((13 : Int) = 11) = False from eq_false (by decide), show ((13 : Int) = 12) = False from eq_false (by decide), show ((13 : Int) = 14) = False from eq_false (by decide), show ((13 : Int) = 16) = False from eq_false (by decide), show ((13 : Int) = 17) = False from eq_false (by decide)]
    · simp only [vdo, vother, g0, e1, e2, n1, n2, if_false, if_true, vset_app f ws c _ h2, show ((14 : Int) = 1) = False from eq_false (by decide), show ((14 : Int) = 2) = False from eq_false (by decide), show ((14 : Int) = 3) = False from eq_false (by decide), show ((14 : Int) = 4) = False from eq_false (by decide), show ((14 : Int) = 5) = False from eq_false (by decide), show ((14 : Int) = 6) = False from eq_false (by decide), show ((14 : Int) = 7) = False from eq_false (by decide), show ((14 : Int) = 8) = False from eq_false (by decide), show ((14 : Int) = 9) = False from eq_false (by decide), show ((14 : Int) = 10) = False from eq_false (by decide), show ((14 : Int) = 11) = False from eq_false (by decide), show ((14 : Int) = 12) = False from eq_false (by decide), show ((14 : Int) = 13) = False from eq_false (by decide), show ((14 : Int) = 16) = False from eq_false (by decide), show ((14 : Int) = 17) = False from eq_false (by decide)]
    · simp only [vdo, vother, g0, e1, e2, n1, n2, if_false, vget_app f ws c h2, vset_app f ws c _ h2, show ((15 : Int) = 1) = False from eq_false (by decide), show ((15 : Int) = 2) = False from eq_false (by decide), show ((15 : Int) = 3) = False from eq_false (by decide), show ((15 : Int) = 4) = False from eq_false (by decide), show ((15 : Int) = 5) = False from eq_false (by decide), show ((15 : Int) = 6) = False from eq_false (by decide), show ((15 : Int) = 7) = False from eq_false (by decide), show ((15 : Int) = 8) = False from eq_false (by decide), show ((15 : Int) = 9) = False from eq_false (by decide), show ((15 : Int) = 10) = False from eq_false (by decide), show ((15 : Int) = 11) = False from eq_false (by decide), show ((15 : Int) = 12) = False from eq_false (by decide), show ((15 : Int) = 13) = False from eq_false (by decide), show ((15 : Int) = 14) = False from eq_false (by decide), show ((15 : Int) = 16) = False from eq_false (by decide), show ((15 : Int) = 17) = False from eq_false (by decide)]
      split <;> rfl
  · have em : mv f.length ⟨k, a, b, c, d⟩ = ⟨k, a, b, c, d⟩ := by unfold mv; rw [if_neg hq]
    rw [em]
    have hk2 : k = 1 ∨ k = 2 ∨ k = 3 ∨ k = 4 ∨ k = 5 ∨ k = 6 ∨ k = 7 ∨ k = 8 ∨ k = 9 ∨ k = 10 ∨ k = 11 ∨ k = 12 ∨ k = 16 ∨ k = 17 := by omega
    rcases hk2 with rfl | rfl | rfl | rfl | rfl | rfl | rfl | rfl | rfl | rfl | rfl | rfl | rfl | rfl <;> rfl
theorem vstep_move (code : List Op5) (hc : CodeIn code) (f : List Int) (t : Th) (ws : List Int) (h5 : t.regs.getD 5 0 = 0)
    (hw : ∀ o ∈ code, o.k = 13 ∨ o.k = 14 ∨ o.k = 15 → o.b = 5 ∧ 0 ≤ o.c ∧ o.c < (ws.length : Int) ∧ o.c + (f.length : Int) < 9223372036854775808) :
    vstep (code.map (mv f.length)) t (f ++ ws) = ((vstep code t ws).1, f ++ (vstep code t ws).2) := by
  unfold vstep
  split
  · rfl
  · rw [List.getElem?_map]
    cases ho : code[t.pc]? with
    | none => rfl
    | some o =>
      have hm := List.mem_of_getElem? ho
      have e := vdo_move o { t with pc := t.pc + 1 } ws f h5 (hc.kind o hm) (hw o hm)
      simp only [Option.map_some, e, List.length_map]
theorem vrun_move (code : List Op5) (hc : CodeIn code) (f : List Int) : ∀ (n : Nat) (t : Th) (ws : List Int), t.regs.getD 5 0 = 0 →
    (∀ o ∈ code, o.k = 13 ∨ o.k = 14 ∨ o.k = 15 → o.b = 5 ∧ 0 ≤ o.c ∧ o.c < (ws.length : Int) ∧ o.c + (f.length : Int) < 9223372036854775808) →
    vrun (code.map (mv f.length)) n (t, f ++ ws) = ((vrun code n (t, ws)).1, f ++ (vrun code n (t, ws)).2) ∧ vcount (code.map (mv f.length)) n (t, f ++ ws) = vcount code n (t, ws)
  | 0, t, ws, _, _ => ⟨rfl, rfl⟩
  | n + 1, t, ws, h5, hw => by
    by_cases h : t.over = true
    · obtain ⟨a1, a2⟩ := vrun_over (code.map (mv f.length)) (n + 1) (t, f ++ ws) h
      obtain ⟨b1, b2⟩ := vrun_over code (n + 1) (t, ws) h
      rw [a1, a2, b1, b2]; exact ⟨rfl, rfl⟩
    · have e := vstep_move code hc f t ws h5 hw
      have hj : (vstep code t ws).2.length = ws.length ∧ (vstep code t ws).1.regs.getD 5 0 = 0 := by
        unfold vstep
        split
        · exact ⟨rfl, h5⟩
        · split
          · exact ⟨rfl, h5⟩
          · rename_i o ho
            have hm := List.mem_of_getElem? ho
            obtain ⟨c1, _⟩ := vdo_far o { t with pc := t.pc + 1 } ws (hc.reg o hm) 5 (by omega)
            refine ⟨?_, c1.trans h5⟩
            exact (vdo_words o { t with pc := t.pc + 1 } ws (ws.length + o.c.toNat + 1) h5 (fun hq => by obtain ⟨a, b, c⟩ := hc.word o hm hq; exact ⟨a, b, c, by omega⟩) (hc.kind o hm)).2
      obtain ⟨hl, h5'⟩ := hj
      obtain ⟨i1, i2⟩ := vrun_move code hc f n (vstep code t ws).1 (vstep code t ws).2 h5' (fun o ho hq => by rw [hl]; exact hw o ho hq)
      have hA : (t, f ++ ws).1.over = true ↔ t.over = true := Iff.rfl
      rw [vrun, vcount, if_neg h, if_neg h, vrun, vcount, if_neg h, if_neg h]
      simp only [e]
      exact ⟨i1, by rw [i2]⟩
/-! ### registers by other names -/
def nmR (k r : Int) : Int := if r < 4 then Int.tmod (r + k) 4 else r
def rn (k : Int) (o : Op5) : Op5 :=
  { k := o.k
    a := if o.k ≠ 10 ∧ o.k ≠ 17 then nmR k o.a else o.a
    b := if 2 ≤ o.k ∧ o.k ≤ 9 then nmR k o.b else o.b
    c := if 3 ≤ o.k ∧ o.k ≤ 9 then nmR k o.c else o.c
    d := if o.k = 15 then nmR k o.d else o.d }
structure Ren (k : Int) (r r' : List Int) : Prop where
  l : r.length = 24
  l' : r'.length = 24
  lo : ∀ i : Int, 0 ≤ i → i < 4 → vget r' (nmR k i) = vget r i
  five : vget r' 5 = vget r 5
theorem nmR_in {k i : Int} (hk : 0 ≤ k ∧ k < 4) (h0 : 0 ≤ i) (h4 : i < 4) : 0 ≤ nmR k i ∧ nmR k i < 4 ∧ (nmR k i = i + k ∨ nmR k i = i + k - 4) := by
  unfold nmR
  rw [if_pos h4, Int.tmod_eq_emod_of_nonneg (by omega)]
  omega
theorem vget_set (r : List Int) (a i x : Int) (ha : 0 ≤ a ∧ a.toNat < r.length) (hi : 0 ≤ i) : vget (vset r a x) i = if i = a then x else vget r i := by
  unfold vget vset
  rw [List.getD_eq_getElem?_getD, List.getD_eq_getElem?_getD, List.getElem?_set]
  by_cases h : i = a
  · subst h; rw [if_pos rfl, if_pos ha.2, if_pos rfl]; rfl
  · rw [if_neg (by omega), if_neg h]
theorem Ren.set {k : Int} {r r' : List Int} (hk : 0 ≤ k ∧ k < 4) (h : Ren k r r') {a x : Int} (h0 : 0 ≤ a) (h4 : a < 4) : Ren k (vset r a x) (vset r' (nmR k a) x) := by
  obtain ⟨b1, b2, b3⟩ := nmR_in hk h0 h4
  refine ⟨by rw [vset_len]; exact h.l, by rw [vset_len]; exact h.l', fun i hi hi4 => ?_, ?_⟩
  · obtain ⟨c1, c2, c3⟩ := nmR_in hk hi hi4
    rw [vget_set _ _ _ _ ⟨b1, by rw [h.l']; omega⟩ c1, vget_set _ _ _ _ ⟨h0, by rw [h.l]; omega⟩ hi]
    by_cases e : i = a
    · subst e; rw [if_pos rfl, if_pos rfl]
    · rw [if_neg e, if_neg (by omega)]; exact h.lo i hi hi4
  · rw [vget_set _ _ _ _ ⟨b1, by rw [h.l']; omega⟩ (by decide), vget_set _ _ _ _ ⟨h0, by rw [h.l]; omega⟩ (by decide), if_neg (by omega), if_neg (by omega)]
    exact h.five
structure ThR (k : Int) (t t' : Th) : Prop where
  regs : Ren k t.regs t'.regs
  pc : t'.pc = t.pc
  told : t'.told = t.told
  err : t'.err = t.err
  over : t'.over = t.over
/-- what registers an instruction of a drawn code names -/
def OpIn (o : Op5) : Prop :=
  (1 ≤ o.k ∧ o.k ≤ 17) ∧ (o.k ≠ 10 → o.k ≠ 17 → 0 ≤ o.a ∧ o.a < 4) ∧ (2 ≤ o.k ∧ o.k ≤ 9 → 0 ≤ o.b ∧ o.b < 4) ∧ (3 ≤ o.k ∧ o.k ≤ 9 → 0 ≤ o.c ∧ o.c < 4) ∧
  (o.k = 13 ∨ o.k = 14 ∨ o.k = 15 → o.b = 5) ∧ (o.k = 15 → 0 ≤ o.d ∧ o.d < 4)
theorem vdo_ren (k : Int) (hk : 0 ≤ k ∧ k < 4) (o : Op5) (ho : OpIn o) (t t' : Th) (ws : List Int) (h : ThR k t t') :
    ThR k (vdo o t ws).1 (vdo (rn k o) t' ws).1 ∧ (vdo (rn k o) t' ws).2 = (vdo o t ws).2 := by
  obtain ⟨q, a, b, c, d⟩ := o
  obtain ⟨h1, h2, h3, h4, h5, h6⟩ := ho
  obtain ⟨r, pc, told, err, over⟩ := t
  obtain ⟨r', pc', told', err', over'⟩ := t'
  obtain ⟨hr, e1, e2, e3, e4⟩ := h
  simp only at h1 h2 h3 h4 h5 h6 hr e1 e2 e3 e4
  subst e1; subst e2; subst e3; subst e4
  have hq : q = 1 ∨ q = 2 ∨ (3 ≤ q ∧ q ≤ 9) ∨ q = 10 ∨ q = 11 ∨ q = 12 ∨ q = 13 ∨ q = 14 ∨ q = 15 ∨ q = 16 ∨ q = 17 := by omega
  rcases hq with rfl | rfl | hq | rfl | rfl | rfl | rfl | rfl | rfl | rfl | rfl
  · obtain ⟨a0, a4⟩ := h2 (by decide) (by decide)
    exact ⟨⟨hr.set hk a0 a4, rfl, rfl, rfl, rfl⟩, rfl⟩
  · obtain ⟨a0, a4⟩ := h2 (by decide) (by decide)
    obtain ⟨b0, b4⟩ := h3 (by decide)
    refine ⟨⟨?_, rfl, rfl, rfl, rfl⟩, rfl⟩
    show Ren k (vset r a (vget r b)) (vset r' (nmR k a) (vget r' (nmR k b)))
    rw [hr.lo b b0 b4]; exact hr.set hk a0 a4
  · obtain ⟨a0, a4⟩ := h2 (by omega) (by omega)
    obtain ⟨b0, b4⟩ := h3 (by omega)
    obtain ⟨c0, c4⟩ := h4 (by omega)
    have gb := hr.lo b b0 b4
    have gc := hr.lo c c0 c4
    have hs := fun x => hr.set hk (x := x) a0 a4
    have hq' : q = 3 ∨ q = 4 ∨ q = 5 ∨ q = 6 ∨ q = 7 ∨ q = 8 ∨ q = 9 := by omega
    rcases hq' with rfl | rfl | rfl | rfl | rfl | rfl | rfl
    · refine ⟨⟨?_, rfl, rfl, rfl, rfl⟩, rfl⟩
      show Ren k (vset r a (wrap64 (vget r b + vget r c))) (vset r' (nmR k a) (wrap64 (vget r' (nmR k b) + vget r' (nmR k c))))
      rw [gb, gc]; exact hs _
    · refine ⟨⟨?_, rfl, rfl, rfl, rfl⟩, rfl⟩
      show Ren k (vset r a (wrap64 (vget r b - vget r c))) (vset r' (nmR k a) (wrap64 (vget r' (nmR k b) - vget r' (nmR k c))))
      rw [gb, gc]; exact hs _
    · refine ⟨⟨?_, rfl, rfl, rfl, rfl⟩, rfl⟩
      show Ren k (vset r a (wrap64 (vget r b * vget r c))) (vset r' (nmR k a) (wrap64 (vget r' (nmR k b) * vget r' (nmR k c))))
      rw [gb, gc]; exact hs _
    · refine ⟨⟨?_, rfl, rfl, rfl, rfl⟩, rfl⟩
      show Ren k (vset r a (vquo (vget r b) (vget r c) false)) (vset r' (nmR k a) (vquo (vget r' (nmR k b)) (vget r' (nmR k c)) false))
      rw [gb, gc]; exact hs _
    · refine ⟨⟨?_, rfl, rfl, rfl, rfl⟩, rfl⟩
      show Ren k (vset r a (vquo (vget r b) (vget r c) true)) (vset r' (nmR k a) (vquo (vget r' (nmR k b)) (vget r' (nmR k c)) true))
      rw [gb, gc]; exact hs _
    · refine ⟨⟨?_, rfl, rfl, rfl, rfl⟩, rfl⟩
      show Ren k (vset r a (vflag (decide (vget r b = vget r c)))) (vset r' (nmR k a) (vflag (decide (vget r' (nmR k b) = vget r' (nmR k c)))))
      rw [gb, gc]; exact hs _
    · refine ⟨⟨?_, rfl, rfl, rfl, rfl⟩, rfl⟩
      show Ren k (vset r a (vflag (decide (vget r b < vget r c)))) (vset r' (nmR k a) (vflag (decide (vget r' (nmR k b) < vget r' (nmR k c)))))
      rw [gb, gc]; exact hs _
  · exact ⟨⟨hr, rfl, rfl, rfl, rfl⟩, rfl⟩
  · obtain ⟨a0, a4⟩ := h2 (by decide) (by decide)
    have ga := hr.lo a a0 a4
    show ThR k (if vget r a ≠ 0 then Th.mk r b.toNat told' err' over' else Th.mk r pc' told' err' over') (if vget r' (nmR k a) ≠ 0 then Th.mk r' b.toNat told' err' over' else Th.mk r' pc' told' err' over') ∧ ws = ws
    rw [ga]
    split
    · exact ⟨⟨hr, rfl, rfl, rfl, rfl⟩, rfl⟩
    · exact ⟨⟨hr, rfl, rfl, rfl, rfl⟩, rfl⟩
  · obtain ⟨a0, a4⟩ := h2 (by decide) (by decide)
    have ga := hr.lo a a0 a4
    show ThR k (if vget r a = 0 then Th.mk r b.toNat told' err' over' else Th.mk r pc' told' err' over') (if vget r' (nmR k a) = 0 then Th.mk r' b.toNat told' err' over' else Th.mk r' pc' told' err' over') ∧ ws = ws
    rw [ga]
    split
    · exact ⟨⟨hr, rfl, rfl, rfl, rfl⟩, rfl⟩
    · exact ⟨⟨hr, rfl, rfl, rfl, rfl⟩, rfl⟩
  · obtain ⟨a0, a4⟩ := h2 (by decide) (by decide)
    obtain rfl := h5 (by decide)
    have g5 := hr.five
    show ThR k (if wrap64 (vget r 5 + c) < 0 ∨ (ws.length : Int) ≤ wrap64 (vget r 5 + c) then (Th.mk r pc' told' 2 true, ws) else (Th.mk (vset r a (vget ws (wrap64 (vget r 5 + c)))) pc' told' err' over', ws)).1 (if wrap64 (vget r' 5 + c) < 0 ∨ (ws.length : Int) ≤ wrap64 (vget r' 5 + c) then (Th.mk r' pc' told' 2 true, ws) else (Th.mk (vset r' (nmR k a) (vget ws (wrap64 (vget r' 5 + c)))) pc' told' err' over', ws)).1 ∧ (if wrap64 (vget r' 5 + c) < 0 ∨ (ws.length : Int) ≤ wrap64 (vget r' 5 + c) then (Th.mk r' pc' told' 2 true, ws) else (Th.mk (vset r' (nmR k a) (vget ws (wrap64 (vget r' 5 + c)))) pc' told' err' over', ws)).2 = (if wrap64 (vget r 5 + c) < 0 ∨ (ws.length : Int) ≤ wrap64 (vget r 5 + c) then (Th.mk r pc' told' 2 true, ws) else (Th.mk (vset r a (vget ws (wrap64 (vget r 5 + c)))) pc' told' err' over', ws)).2
    rw [g5]
    split
    · exact ⟨⟨hr, rfl, rfl, rfl, rfl⟩, rfl⟩
    · exact ⟨⟨hr.set hk a0 a4, rfl, rfl, rfl, rfl⟩, rfl⟩
  · obtain ⟨a0, a4⟩ := h2 (by decide) (by decide)
    obtain rfl := h5 (by decide)
    have g5 := hr.five
    have ga := hr.lo a a0 a4
    show ThR k (if wrap64 (vget r 5 + c) < 0 ∨ (ws.length : Int) ≤ wrap64 (vget r 5 + c) then (Th.mk r pc' told' 2 true, ws) else (Th.mk r pc' told' err' over', vset ws (wrap64 (vget r 5 + c)) (vget r a))).1 (if wrap64 (vget r' 5 + c) < 0 ∨ (ws.length : Int) ≤ wrap64 (vget r' 5 + c) then (Th.mk r' pc' told' 2 true, ws) else (Th.mk r' pc' told' err' over', vset ws (wrap64 (vget r' 5 + c)) (vget r' (nmR k a)))).1 ∧ (if wrap64 (vget r' 5 + c) < 0 ∨ (ws.length : Int) ≤ wrap64 (vget r' 5 + c) then (Th.mk r' pc' told' 2 true, ws) else (Th.mk r' pc' told' err' over', vset ws (wrap64 (vget r' 5 + c)) (vget r' (nmR k a)))).2 = (if wrap64 (vget r 5 + c) < 0 ∨ (ws.length : Int) ≤ wrap64 (vget r 5 + c) then (Th.mk r pc' told' 2 true, ws) else (Th.mk r pc' told' err' over', vset ws (wrap64 (vget r 5 + c)) (vget r a))).2
    rw [g5, ga]
    split
    · exact ⟨⟨hr, rfl, rfl, rfl, rfl⟩, rfl⟩
    · exact ⟨⟨hr, rfl, rfl, rfl, rfl⟩, rfl⟩
  · obtain ⟨a0, a4⟩ := h2 (by decide) (by decide)
    obtain ⟨d0, d4⟩ := h6 rfl
    obtain rfl := h5 (by decide)
    have g5 := hr.five
    have ga := hr.lo a a0 a4
    have gd := hr.lo d d0 d4
    have E : ∀ (r0 : List Int) (a0 d0 : Int), vdo ⟨15, a0, 5, c, d0⟩ ⟨r0, pc', told', err', over'⟩ ws = (if wrap64 (vget r0 5 + c) < 0 ∨ (ws.length : Int) ≤ wrap64 (vget r0 5 + c) then (Th.mk r0 pc' told' 2 true, ws) else if vget ws (wrap64 (vget r0 5 + c)) = vget r0 d0 then (Th.mk (vset r0 a0 1) pc' told' err' over', vset ws (wrap64 (vget r0 5 + c)) (vget r0 a0)) else (Th.mk (vset r0 a0 0) pc' told' err' over', ws)) := fun r0 a0 d0 => rfl
    have E2 : rn k ⟨15, a, 5, c, d⟩ = ⟨15, nmR k a, 5, c, nmR k d⟩ := rfl
    rw [E2, E, E, g5, ga, gd]
    split
    · exact ⟨⟨hr, rfl, rfl, rfl, rfl⟩, rfl⟩
    · split
      · exact ⟨⟨hr.set hk a0 a4, rfl, rfl, rfl, rfl⟩, rfl⟩
      · exact ⟨⟨hr.set hk a0 a4, rfl, rfl, rfl, rfl⟩, rfl⟩
  · obtain ⟨a0, a4⟩ := h2 (by decide) (by decide)
    have ga := hr.lo a a0 a4
    have E : ∀ (r0 : List Int) (a0 b0 c0 d0 : Int), vdo ⟨16, a0, b0, c0, d0⟩ ⟨r0, pc', told', err', over'⟩ ws = (if told'.length = 200 then Th.mk r0 pc' told' 8 true else Th.mk r0 pc' (told' ++ [vget r0 a0]) err' over', ws) := fun r0 a0 b0 c0 d0 => rfl
    have E2 : rn k ⟨16, a, b, c, d⟩ = ⟨16, nmR k a, b, c, d⟩ := rfl
    rw [E2, E, E, ga]
    refine ⟨?_, rfl⟩
    show ThR k (if told'.length = 200 then Th.mk r pc' told' 8 true else Th.mk r pc' (told' ++ [vget r a]) err' over') (if told'.length = 200 then Th.mk r' pc' told' 8 true else Th.mk r' pc' (told' ++ [vget r a]) err' over')
    split
    · exact ⟨hr, rfl, rfl, rfl, rfl⟩
    · exact ⟨hr, rfl, rfl, rfl, rfl⟩
  · exact ⟨⟨hr, rfl, rfl, rfl, rfl⟩, rfl⟩
theorem vstep_ren (k : Int) (hk : 0 ≤ k ∧ k < 4) (code : List Op5) (hc : ∀ o ∈ code, OpIn o) (t t' : Th) (ws : List Int) (h : ThR k t t') :
    ThR k (vstep code t ws).1 (vstep (code.map (rn k)) t' ws).1 ∧ (vstep (code.map (rn k)) t' ws).2 = (vstep code t ws).2 := by
  unfold vstep
  rw [h.over]
  split
  · exact ⟨h, rfl⟩
  · rw [List.getElem?_map, h.pc]
    cases ho : code[t.pc]? with
    | none => exact ⟨h, rfl⟩
    | some o =>
      have hm := List.mem_of_getElem? ho
      have h' : ThR k { t with pc := t.pc + 1 } { t' with pc := t'.pc + 1 } := ⟨h.regs, by rw [h.pc], h.told, h.err, h.over⟩
      obtain ⟨e1, e2⟩ := vdo_ren k hk o (hc o hm) _ _ ws h'
      rw [h.pc, h.over] at e1 e2
      simp only [Option.map_some, List.length_map]
      refine ⟨⟨e1.regs, e1.pc, e1.told, e1.err, ?_⟩, e2⟩
      have a1 := e1.over
      have a2 := e1.pc
      simp only at a1 a2 ⊢
      rw [a1, a2]
theorem vrun_ren (k : Int) (hk : 0 ≤ k ∧ k < 4) (code : List Op5) (hc : ∀ o ∈ code, OpIn o) : ∀ (n : Nat) (t t' : Th) (ws : List Int), ThR k t t' →
    ThR k (vrun code n (t, ws)).1 (vrun (code.map (rn k)) n (t', ws)).1 ∧ (vrun (code.map (rn k)) n (t', ws)).2 = (vrun code n (t, ws)).2 ∧ vcount (code.map (rn k)) n (t', ws) = vcount code n (t, ws)
  | 0, t, t', ws, h => ⟨h, rfl, rfl⟩
  | n + 1, t, t', ws, h => by
    rw [vrun, vrun, vcount, vcount]
    simp only [h.over]
    split
    · exact ⟨h, rfl, rfl⟩
    · obtain ⟨e1, e2⟩ := vstep_ren k hk code hc t t' ws h
      obtain ⟨i1, i2, i3⟩ := vrun_ren k hk code hc n _ _ (vstep code t ws).2 e1
      have e3 : vstep (code.map (rn k)) t' ws = ((vstep (code.map (rn k)) t' ws).1, (vstep code t ws).2) := by rw [← e2]
      rw [e3]
      exact ⟨i1, i2, by rw [i3]⟩
end Go.Proofs.YtabmkjokeeakdaaDoor
