/-
  Package rwl under whatever schedule: plain laws.
-/
import Derived.Test.YtnoinojhocicjaaDoorSemaLaw
import Derived.Test.YtnoinojhocicjaaDoorCodes3
namespace Go.Proofs.YtnoinojhocicjaaDoor
open Go.RowKit
set_option linter.unusedVariables false

/-! ### the machine: who writes in which round -/
def wround (k : Bool) : List VCall := [⟨if k then 2 else 0, []⟩, ⟨4, []⟩, ⟨if k then 3 else 1, []⟩]
def wrows (kd : Nat → Nat → Bool) (n : Nat) : Nat → List VCall
  | 0 => []
  | r + 1 => wrows kd n r ++ wround (kd n r)
theorem wrows_len (kd : Nat → Nat → Bool) (n : Nat) : ∀ r, (wrows kd n r).length = 3 * r
  | 0 => rfl
  | r + 1 => by rw [wrows, List.length_append, wrows_len kd n r]; simp [wround]; omega
def wcode (kd : Nat → Nat → Bool) (n nx : Nat) : Nat := if nx % 3 = 0 then (if kd n (nx / 3) then 2 else 0) else if nx % 3 = 1 then 4 else (if kd n (nx / 3) then 3 else 1)
theorem wrows_at (kd : Nat → Nat → Bool) (n : Nat) : ∀ (r nx : Nat) (c : VCall), (wrows kd n r)[nx]? = some c → c = ⟨wcode kd n nx, []⟩
  | 0, nx, c, h => by simp [wrows] at h
  | r + 1, nx, c, h => by
    rw [wrows, List.getElem?_append, wrows_len] at h
    split at h
    · exact wrows_at kd n r nx c h
    · rename_i hl
      obtain ⟨u, hu⟩ : ∃ u, nx = 3 * r + u := ⟨nx - 3 * r, by omega⟩
      subst hu
      rw [Nat.add_sub_cancel_left] at h
      unfold wround at h
      match u, h with
      | 0, h => 
        simp at h
        have e1 : (3 * r + 0) % 3 = 0 := by omega
        have e2 : (3 * r + 0) / 3 = r := by omega
        unfold wcode
        rw [← h, e1, e2]; simp
      | 1, h => 
        simp at h
        have e1 : (3 * r + 1) % 3 = 1 := by omega
        unfold wcode
        rw [← h, e1]; simp
      | 2, h => 
        simp at h
        have e1 : (3 * r + 2) % 3 = 2 := by omega
        have e2 : (3 * r + 2) / 3 = r := by omega
        unfold wcode
        rw [← h, e1, e2]; simp
      | u + 3, h => simp at h
def rwlMach (kd : Nat → Nat → Bool) (work : Nat) : Mach := ⟨[0], [readInCode, readOutCode, writeInCode, writeOutCode, lops work work], (List.range 4).map fun n => wrows kd n 6⟩
theorem rwl_call {kd : Nat → Nat → Bool} {work n nx : Nat} {calls : List VCall} {c : VCall} (h : (rwlMach kd work).threads[n]? = some calls) (hc : calls[nx]? = some c) : c = ⟨wcode kd n nx, []⟩ := by
  unfold rwlMach at h
  simp only at h
  rw [List.getElem?_map] at h
  obtain ⟨u, hu, rfl⟩ := Option.map_eq_some_iff.1 h
  have hu4 : u = n := by
    rw [List.getElem?_eq_some_iff] at hu
    obtain ⟨_, h2⟩ := hu
    simp at h2; exact h2.symm
  subst hu4
  exact wrows_at kd u 6 nx c hc
/-! ### one step of each code -/
def rwTh (p : Nat) (x y z : Int) : Th := ⟨1 :: x :: 0 :: y :: z :: List.replicate 19 0, p, [], 0, false⟩
def rwEnd (p : Nat) (x y z : Int) : Th := ⟨1 :: x :: 0 :: y :: z :: List.replicate 19 0, p, [], 0, true⟩
theorem ri_0 (ws : List Int) : vstep readInCode semT0 ws = (rwTh 1 0 0 0, ws) := rfl
theorem ri_1 (x y z w : Int) : vstep readInCode (rwTh 1 x y z) [w] = (rwTh 2 w y z, [w]) := by
  unfold vstep vdo vother
  simp only [rwTh, readInCode, List.getElem?_cons_succ, List.getElem?_cons_zero]
  simp [vget, vset, wrap64]
theorem ri_2 (x y z : Int) (ws : List Int) : vstep readInCode (rwTh 2 x y z) ws = (rwTh 3 x (vflag (decide (x < 0))) z, ws) := rfl
theorem ri_3a (x z : Int) (ws : List Int) : vstep readInCode (rwTh 3 x 1 z) ws = (rwTh 1 x 1 z, ws) := rfl
theorem ri_3b (x z : Int) (ws : List Int) : vstep readInCode (rwTh 3 x 0 z) ws = (rwTh 4 x 0 z, ws) := rfl
theorem ri_4 (x y z : Int) (ws : List Int) : vstep readInCode (rwTh 4 x y z) ws = (rwTh 5 x y (wrap64 (x + 1)), ws) := rfl
theorem ri_5 (x y z w : Int) : vstep readInCode (rwTh 5 x y z) [w] = (if w = x then (rwTh 6 x y 1, [z]) else (rwTh 6 x y 0, [w])) := by
  unfold vstep vdo vother
  simp only [rwTh, readInCode, List.getElem?_cons_succ, List.getElem?_cons_zero]
  simp [vget, vset, wrap64]
  split <;> rfl
theorem ri_6a (x y : Int) (ws : List Int) : vstep readInCode (rwTh 6 x y 1) ws = (rwEnd 7 x y 1, ws) := rfl
theorem ri_6b (x y : Int) (ws : List Int) : vstep readInCode (rwTh 6 x y 0) ws = (rwTh 1 x y 0, ws) := rfl
theorem ro_0 (ws : List Int) : vstep readOutCode semT0 ws = (rwTh 1 0 0 0, ws) := rfl
theorem ro_1 (x y z w : Int) : vstep readOutCode (rwTh 1 x y z) [w] = (rwTh 2 w y z, [w]) := by
  unfold vstep vdo vother
  simp only [rwTh, readOutCode, List.getElem?_cons_succ, List.getElem?_cons_zero]
  simp [vget, vset, wrap64]
theorem ro_2 (x y z : Int) (ws : List Int) : vstep readOutCode (rwTh 2 x y z) ws = (rwTh 3 x (wrap64 (x - 1)) z, ws) := rfl
theorem ro_3 (x y z w : Int) : vstep readOutCode (rwTh 3 x y z) [w] = (if w = x then (rwTh 4 x 1 z, [y]) else (rwTh 4 x 0 z, [w])) := by
  unfold vstep vdo vother
  simp only [rwTh, readOutCode, List.getElem?_cons_succ, List.getElem?_cons_zero]
  simp [vget, vset, wrap64]
  split <;> rfl
theorem ro_4a (x z : Int) (ws : List Int) : vstep readOutCode (rwTh 4 x 1 z) ws = (rwEnd 5 x 1 z, ws) := rfl
theorem ro_4b (x z : Int) (ws : List Int) : vstep readOutCode (rwTh 4 x 0 z) ws = (rwTh 1 x 0 z, ws) := rfl
theorem wi_0 (ws : List Int) : vstep writeInCode semT0 ws = (rwTh 1 0 0 0, ws) := rfl
theorem wi_1 (x y z w : Int) : vstep writeInCode (rwTh 1 x y z) [w] = (rwTh 2 w y z, [w]) := by
  unfold vstep vdo vother
  simp only [rwTh, writeInCode, List.getElem?_cons_succ, List.getElem?_cons_zero]
  simp [vget, vset, wrap64]
theorem wi_2 (x y z : Int) (ws : List Int) : vstep writeInCode (rwTh 2 x y z) ws = (if x = 0 then (rwTh 3 x y z, ws) else (rwTh 1 x y z, ws)) := by
  unfold vstep vdo vother
  simp only [rwTh, writeInCode, List.getElem?_cons_succ, List.getElem?_cons_zero]
  simp [vget]
  split <;> rfl
theorem wi_3 (y z : Int) (ws : List Int) : vstep writeInCode (rwTh 3 0 y z) ws = (rwTh 4 0 (-1) z, ws) := by
  have e : vstep writeInCode (rwTh 3 0 y z) ws = (rwTh 4 0 (wrap64 (0 - 1)) z, ws) := rfl
  rw [e, wrap_sm (by decide) (by decide)]; rfl
theorem wi_4 (x y z w : Int) : vstep writeInCode (rwTh 4 x y z) [w] = (if w = x then (rwTh 5 x 1 z, [y]) else (rwTh 5 x 0 z, [w])) := by
  unfold vstep vdo vother
  simp only [rwTh, writeInCode, List.getElem?_cons_succ, List.getElem?_cons_zero]
  simp [vget, vset, wrap64]
  split <;> rfl
theorem wi_5a (x z : Int) (ws : List Int) : vstep writeInCode (rwTh 5 x 1 z) ws = (rwEnd 6 x 1 z, ws) := rfl
theorem wi_5b (x z : Int) (ws : List Int) : vstep writeInCode (rwTh 5 x 0 z) ws = (rwTh 1 x 0 z, ws) := rfl
theorem wo_0 (w : Int) : vstep writeOutCode semT0 [w] = (⟨List.replicate 24 0, 1, [], 0, true⟩, [0]) := by
  unfold vstep vdo vother
  simp only [semT0, writeOutCode, List.getElem?_cons_zero]
  simp [vget, vset, wrap64]
/-! ### who holds -/
def rdHold (kd : Nat → Nat → Bool) (n : Nat) (p : PT) : Bool :=
  match p.cur with
  | none => p.next % 3 != 0 && !kd n (p.next / 3)
  | some (ci, t) => if ci = 0 then t.pc == 6 && vget t.regs 4 == 1 else if ci = 1 then !(t.pc == 4 && vget t.regs 3 == 1) else if ci = 4 then !kd n (p.next / 3) else false
def wrHold (kd : Nat → Nat → Bool) (n : Nat) (p : PT) : Bool :=
  match p.cur with
  | none => p.next % 3 != 0 && kd n (p.next / 3)
  | some (ci, t) => if ci = 2 then t.pc == 5 && vget t.regs 3 == 1 else if ci = 3 then true else if ci = 4 then kd n (p.next / 3) else false
/-- how a step changes the word, who reads, and who writes -/
def Tr (x x' : Int) (a a' b b' : Bool) : Prop :=
  (x' = x ∧ a' = a ∧ b' = b) ∨ (0 ≤ x ∧ x' = x + 1 ∧ a = false ∧ a' = true ∧ b' = b) ∨ (x' = x - 1 ∧ a = true ∧ a' = false ∧ b' = b) ∨ (x = 0 ∧ x' = -1 ∧ b = false ∧ b' = true ∧ a' = a) ∨ (x' = 0 ∧ b = true ∧ b' = false ∧ a' = a)
def RInSh (t : Th) : Prop := t = semT0 ∨ (∃ x y z, t = rwTh 1 x y z) ∨ (∃ x y z, -1 ≤ x ∧ x ≤ 4 ∧ t = rwTh 2 x y z) ∨ (∃ x z, t = rwTh 3 x 1 z) ∨ (∃ x z, 0 ≤ x ∧ x ≤ 4 ∧ t = rwTh 3 x 0 z) ∨ (∃ x y z, 0 ≤ x ∧ x ≤ 4 ∧ t = rwTh 4 x y z) ∨ (∃ x y, 0 ≤ x ∧ t = rwTh 5 x y (x + 1)) ∨ (∃ x y, t = rwTh 6 x y 1) ∨ (∃ x y, t = rwTh 6 x y 0)
def ROutSh (t : Th) : Prop := t = semT0 ∨ (∃ x y z, t = rwTh 1 x y z) ∨ (∃ x y z, -1 ≤ x ∧ x ≤ 4 ∧ t = rwTh 2 x y z) ∨ (∃ x z, t = rwTh 3 x (x - 1) z) ∨ (∃ x z, t = rwTh 4 x 1 z) ∨ (∃ x z, t = rwTh 4 x 0 z)
def WInSh (t : Th) : Prop := t = semT0 ∨ (∃ x y z, t = rwTh 1 x y z) ∨ (∃ x y z, t = rwTh 2 x y z) ∨ (∃ y z, t = rwTh 3 0 y z) ∨ (∃ z, t = rwTh 4 0 (-1) z) ∨ (∃ x z, t = rwTh 5 x 1 z) ∨ (∃ x z, t = rwTh 5 x 0 z)
/-- what a thread may be in -/
def RSh (kd : Nat → Nat → Bool) (n nx ci : Nat) (t : Th) : Prop :=
  (ci = 0 ∧ nx % 3 = 1 ∧ kd n (nx / 3) = false ∧ RInSh t) ∨ (ci = 2 ∧ nx % 3 = 1 ∧ kd n (nx / 3) = true ∧ WInSh t) ∨ (ci = 4 ∧ nx % 3 = 2 ∧ t.err = 0) ∨ (ci = 1 ∧ nx % 3 = 0 ∧ ROutSh t) ∨ (ci = 3 ∧ nx % 3 = 0 ∧ t = semT0)
/-- what a step does -/
def RStep (kd : Nat → Nat → Bool) (n nx ci : Nat) (t : Th) (x : Int) (r : Th × List Int) : Prop :=
  ∃ x' : Int, r.2 = [x'] ∧ r.1.err = 0 ∧ ((r.1.over = false ∧ RSh kd n nx ci r.1 ∧ Tr x x' (rdHold kd n ⟨nx, some (ci, t)⟩) (rdHold kd n ⟨nx, some (ci, r.1)⟩) (wrHold kd n ⟨nx, some (ci, t)⟩) (wrHold kd n ⟨nx, some (ci, r.1)⟩)) ∨
    (r.1.over = true ∧ Tr x x' (rdHold kd n ⟨nx, some (ci, t)⟩) (rdHold kd n ⟨nx, none⟩) (wrHold kd n ⟨nx, some (ci, t)⟩) (wrHold kd n ⟨nx, none⟩)))
section
variable {kd : Nat → Nat → Bool} {n nx : Nat}
theorem none_rd (h : nx % 3 = 1) : rdHold kd n ⟨nx, none⟩ = !kd n (nx / 3) ∧ wrHold kd n ⟨nx, none⟩ = kd n (nx / 3) := by simp [rdHold, wrHold, h]
theorem none_2 (h : nx % 3 = 2) : rdHold kd n ⟨nx, none⟩ = !kd n (nx / 3) ∧ wrHold kd n ⟨nx, none⟩ = kd n (nx / 3) := by simp [rdHold, wrHold, h]
theorem none_0 (h : nx % 3 = 0) : rdHold kd n ⟨nx, none⟩ = false ∧ wrHold kd n ⟨nx, none⟩ = false := by simp [rdHold, wrHold, h]
theorem ri_ok (h3 : nx % 3 = 1) (hk : kd n (nx / 3) = false) {t : Th} (h : RInSh t) (x : Int) (hx : -1 ≤ x) (hx4 : x ≤ 4) : RStep kd n nx 0 t x (vstep readInCode t [x]) := by
  have same : ∀ t' : Th, t'.err = 0 → t'.over = false → RInSh t' → rdHold kd n ⟨nx, some (0, t')⟩ = rdHold kd n ⟨nx, some (0, t)⟩ → RStep kd n nx 0 t x (t', [x]) := fun t' e1 e2 e3 e4 => ⟨x, rfl, e1, .inl ⟨e2, .inl ⟨rfl, h3, hk, e3⟩, .inl ⟨rfl, e4, rfl⟩⟩⟩
  rcases h with rfl | ⟨u, y, z, rfl⟩ | ⟨u, y, z, hu, hu4, rfl⟩ | ⟨u, z, rfl⟩ | ⟨u, z, hu, hu4, rfl⟩ | ⟨u, y, z, hu, hu4, rfl⟩ | ⟨u, y, hu, rfl⟩ | ⟨u, y, rfl⟩ | ⟨u, y, rfl⟩
  · rw [ri_0]; exact same _ rfl rfl (.inr (.inl ⟨_, _, _, rfl⟩)) rfl
  · rw [ri_1]; exact same _ rfl rfl (.inr (.inr (.inl ⟨_, _, _, hx, hx4, rfl⟩))) rfl
  · rw [ri_2]
    by_cases hn : u < 0
    · rw [decide_eq_true hn]; exact same _ rfl rfl (.inr (.inr (.inr (.inl ⟨_, _, rfl⟩)))) rfl
    · rw [decide_eq_false hn]; exact same _ rfl rfl (.inr (.inr (.inr (.inr (.inl ⟨_, _, by omega, hu4, rfl⟩))))) rfl
  · rw [ri_3a]; exact same _ rfl rfl (.inr (.inl ⟨_, _, _, rfl⟩)) rfl
  · rw [ri_3b]; exact same _ rfl rfl (.inr (.inr (.inr (.inr (.inr (.inl ⟨_, _, _, hu, hu4, rfl⟩)))))) rfl
  · rw [ri_4]
    have e : wrap64 (u + 1) = u + 1 := by
      rw [wrap_sm (by omega) (by omega)]
    rw [e]; exact same _ rfl rfl (.inr (.inr (.inr (.inr (.inr (.inr (.inl ⟨_, _, hu, rfl⟩))))))) rfl
  · rw [ri_5]
    split
    · rename_i e
      subst e
      exact ⟨x + 1, rfl, rfl, .inl ⟨rfl, .inl ⟨rfl, h3, hk, .inr (.inr (.inr (.inr (.inr (.inr (.inr (.inl ⟨_, _, rfl⟩)))))))⟩, .inr (.inl ⟨hu, rfl, rfl, rfl, rfl⟩)⟩⟩
    · exact same _ rfl rfl (.inr (.inr (.inr (.inr (.inr (.inr (.inr (.inr ⟨_, _, rfl⟩)))))))) rfl
  · rw [ri_6a]
    obtain ⟨e1, e2⟩ := none_rd (kd := kd) (n := n) h3
    exact ⟨x, rfl, rfl, .inr ⟨rfl, .inl ⟨rfl, by rw [e1, hk]; rfl, by rw [e2, hk]; rfl⟩⟩⟩
  · rw [ri_6b]; exact same _ rfl rfl (.inr (.inl ⟨_, _, _, rfl⟩)) rfl
theorem ro_ok (h3 : nx % 3 = 0) {t : Th} (h : ROutSh t) (x : Int) (hx : -1 ≤ x) (hx4 : x ≤ 4) : RStep kd n nx 1 t x (vstep readOutCode t [x]) := by
  have same : ∀ t' : Th, t'.err = 0 → t'.over = false → ROutSh t' → rdHold kd n ⟨nx, some (1, t')⟩ = rdHold kd n ⟨nx, some (1, t)⟩ → RStep kd n nx 1 t x (t', [x]) := fun t' e1 e2 e3 e4 => ⟨x, rfl, e1, .inl ⟨e2, .inr (.inr (.inr (.inl ⟨rfl, h3, e3⟩))), .inl ⟨rfl, e4, rfl⟩⟩⟩
  rcases h with rfl | ⟨u, y, z, rfl⟩ | ⟨u, y, z, hu, hu4, rfl⟩ | ⟨u, z, rfl⟩ | ⟨u, z, rfl⟩ | ⟨u, z, rfl⟩
  · rw [ro_0]; exact same _ rfl rfl (.inr (.inl ⟨_, _, _, rfl⟩)) rfl
  · rw [ro_1]; exact same _ rfl rfl (.inr (.inr (.inl ⟨_, _, _, hx, hx4, rfl⟩))) rfl
  · rw [ro_2]
    have e : wrap64 (u - 1) = u - 1 := by
      rw [wrap_sm (by omega) (by omega)]
    rw [e]; exact same _ rfl rfl (.inr (.inr (.inr (.inl ⟨_, _, rfl⟩)))) rfl
  · rw [ro_3]
    split
    · rename_i e
      subst e
      exact ⟨x - 1, rfl, rfl, .inl ⟨rfl, .inr (.inr (.inr (.inl ⟨rfl, h3, .inr (.inr (.inr (.inr (.inl ⟨_, _, rfl⟩))))⟩))), .inr (.inr (.inl ⟨rfl, rfl, rfl, rfl⟩))⟩⟩
    · exact same _ rfl rfl (.inr (.inr (.inr (.inr (.inr ⟨_, _, rfl⟩))))) rfl
  · rw [ro_4a]
    obtain ⟨e1, e2⟩ := none_0 (kd := kd) (n := n) h3
    exact ⟨x, rfl, rfl, .inr ⟨rfl, .inl ⟨rfl, by rw [e1]; rfl, by rw [e2]; rfl⟩⟩⟩
  · rw [ro_4b]; exact same _ rfl rfl (.inr (.inl ⟨_, _, _, rfl⟩)) rfl
theorem wi_ok (h3 : nx % 3 = 1) (hk : kd n (nx / 3) = true) {t : Th} (h : WInSh t) (x : Int) : RStep kd n nx 2 t x (vstep writeInCode t [x]) := by
  have same : ∀ t' : Th, t'.err = 0 → t'.over = false → WInSh t' → wrHold kd n ⟨nx, some (2, t')⟩ = wrHold kd n ⟨nx, some (2, t)⟩ → RStep kd n nx 2 t x (t', [x]) := fun t' e1 e2 e3 e4 => ⟨x, rfl, e1, .inl ⟨e2, .inr (.inl ⟨rfl, h3, hk, e3⟩), .inl ⟨rfl, rfl, e4⟩⟩⟩
  rcases h with rfl | ⟨u, y, z, rfl⟩ | ⟨u, y, z, rfl⟩ | ⟨y, z, rfl⟩ | ⟨z, rfl⟩ | ⟨u, z, rfl⟩ | ⟨u, z, rfl⟩
  · rw [wi_0]; exact same _ rfl rfl (.inr (.inl ⟨_, _, _, rfl⟩)) rfl
  · rw [wi_1]; exact same _ rfl rfl (.inr (.inr (.inl ⟨_, _, _, rfl⟩))) rfl
  · rw [wi_2]
    split
    · rename_i e
      subst e
      exact same _ rfl rfl (.inr (.inr (.inr (.inl ⟨_, _, rfl⟩)))) rfl
    · exact same _ rfl rfl (.inr (.inl ⟨_, _, _, rfl⟩)) rfl
  · rw [wi_3]; exact same _ rfl rfl (.inr (.inr (.inr (.inr (.inl ⟨_, rfl⟩))))) rfl
  · rw [wi_4]
    split
    · rename_i e
      subst e
      exact ⟨-1, rfl, rfl, .inl ⟨rfl, .inr (.inl ⟨rfl, h3, hk, .inr (.inr (.inr (.inr (.inr (.inl ⟨_, _, rfl⟩)))))⟩), .inr (.inr (.inr (.inl ⟨rfl, rfl, rfl, rfl, rfl⟩)))⟩⟩
    · exact same _ rfl rfl (.inr (.inr (.inr (.inr (.inr (.inr ⟨_, _, rfl⟩)))))) rfl
  · rw [wi_5a]
    obtain ⟨e1, e2⟩ := none_rd (kd := kd) (n := n) h3
    exact ⟨x, rfl, rfl, .inr ⟨rfl, .inl ⟨rfl, by rw [e1, hk]; rfl, by rw [e2, hk]; rfl⟩⟩⟩
  · rw [wi_5b]; exact same _ rfl rfl (.inr (.inl ⟨_, _, _, rfl⟩)) rfl
theorem wo_ok (h3 : nx % 3 = 0) (x : Int) : RStep kd n nx 3 semT0 x (vstep writeOutCode semT0 [x]) := by
  rw [wo_0]
  obtain ⟨e1, e2⟩ := none_0 (kd := kd) (n := n) h3
  exact ⟨0, rfl, rfl, .inr ⟨rfl, .inr (.inr (.inr (.inr ⟨rfl, rfl, by rw [e2], by rw [e1]; rfl⟩)))⟩⟩
theorem lo_ok (work : Nat) (h3 : nx % 3 = 2) {t : Th} (h : t.err = 0) (x : Int) : RStep kd n nx 4 t x (vstep (lops work work) t [x]) := by
  obtain ⟨e1, e2⟩ := lops_step work t [x] h
  obtain ⟨e3, e4⟩ := none_2 (kd := kd) (n := n) h3
  refine ⟨x, e1, e2, ?_⟩
  cases ho : (vstep (lops work work) t [x]).1.over with
  | false => exact .inl ⟨rfl, .inr (.inr (.inl ⟨rfl, h3, e2⟩)), .inl ⟨rfl, rfl, rfl⟩⟩
  | true => exact .inr ⟨rfl, .inl ⟨rfl, by rw [e3]; rfl, by rw [e4]; rfl⟩⟩
theorem rsh_ok {work ci : Nat} {t : Th} (h : RSh kd n nx ci t) (x : Int) (hx : -1 ≤ x) (hx4 : x ≤ 4) : RStep kd n nx ci t x (vstep ((rwlMach kd work).codes.getD ci []) t [x]) := by
  rcases h with ⟨rfl, h3, hk, h⟩ | ⟨rfl, h3, hk, h⟩ | ⟨rfl, h3, h⟩ | ⟨rfl, h3, h⟩ | ⟨rfl, h3, rfl⟩
  · exact ri_ok h3 hk h x hx hx4
  · exact wi_ok h3 hk h x
  · exact lo_ok work h3 h x
  · exact ro_ok h3 h x hx hx4
  · exact wo_ok h3 x
end
/-! ### what every run keeps -/
structure RI (kd : Nat → Nat → Bool) (ths : List PT) (ws : List Int) : Prop where
  len : ths.length = 4
  w : ∃ x : Int, ws = [x] ∧ ((x = (cntI (rdHold kd) 0 ths : Int) ∧ cntI (wrHold kd) 0 ths = 0) ∨ (x = -1 ∧ cntI (rdHold kd) 0 ths = 0 ∧ cntI (wrHold kd) 0 ths = 1))
  th : ∀ (n nx ci : Nat) (t : Th), ths[n]? = some ⟨nx, some (ci, t)⟩ → RSh kd n nx ci t
theorem cntI_le {α : Type} (f : Nat → α → Bool) : ∀ (l : List α) (k : Nat), cntI f k l ≤ l.length
  | [], _ => Nat.le_refl _
  | x :: l, k => by
    have := cntI_le f l (k + 1)
    unfold cntI b2n
    split <;> simp <;> omega
theorem RI.word {kd : Nat → Nat → Bool} {ths : List PT} {ws : List Int} (h : RI kd ths ws) : ∃ x : Int, ws = [x] ∧ -1 ≤ x ∧ x ≤ 4 := by
  obtain ⟨x, hx, h1⟩ := h.w
  have h2 := cntI_le (rdHold kd) ths 0
  rw [h.len] at h2
  refine ⟨x, hx, ?_⟩
  rcases h1 with ⟨h1, _⟩ | ⟨h1, _⟩ <;> omega
theorem RI.put {kd : Nat → Nat → Bool} {ths : List PT} {x x' : Int} (h : RI kd ths [x]) {n : Nat} {p q : PT} (hn : ths[n]? = some p) (hT : Tr x x' (rdHold kd n p) (rdHold kd n q) (wrHold kd n p) (wrHold kd n q)) (hq : ∀ nx ci t, q = ⟨nx, some (ci, t)⟩ → RSh kd n nx ci t) : RI kd (ths.set n q) [x'] := by
  obtain ⟨y, hy, hc⟩ := h.w
  injection hy with hy
  subst hy
  refine ⟨by rw [List.length_set]; exact h.len, ⟨x', rfl, ?_⟩, fun n' nx' ci t hn' => ?_⟩
  · have h1 := cntI_set0 (rdHold kd) q hn
    have h2 := cntI_set0 (wrHold kd) q hn
    rcases hT with ⟨e1, e2, e3⟩ | ⟨e0, e1, e2, e3, e4⟩ | ⟨e1, e2, e3, e4⟩ | ⟨e0, e1, e2, e3, e4⟩ | ⟨e1, e2, e3, e4⟩
    · rw [e2] at h1; rw [e3] at h2
      rcases hc with ⟨c1, c2⟩ | ⟨c1, c2, c3⟩
      · left; omega
      · right; omega
    · rw [e2, e3] at h1; rw [e4] at h2
      simp only [b2n, if_true, if_false, Bool.false_eq_true] at h1
      rcases hc with ⟨c1, c2⟩ | ⟨c1, c2, c3⟩
      · left; omega
      · omega
    · rw [e2, e3] at h1; rw [e4] at h2
      simp only [b2n, if_true, if_false, Bool.false_eq_true] at h1
      rcases hc with ⟨c1, c2⟩ | ⟨c1, c2, c3⟩
      · left; omega
      · omega
    · rw [e2, e3] at h2; rw [e4] at h1
      simp only [b2n, if_true, if_false, Bool.false_eq_true] at h2
      rcases hc with ⟨c1, c2⟩ | ⟨c1, c2, c3⟩
      · right; omega
      · omega
    · rw [e2, e3] at h2; rw [e4] at h1
      simp only [b2n, if_true, if_false, Bool.false_eq_true] at h2
      rcases hc with ⟨c1, c2⟩ | ⟨c1, c2, c3⟩
      · omega
      · left; omega
  · rcases get_set hn' with ⟨e1, e⟩ | ⟨_, e⟩
    · subst e1; exact hq nx' ci t e.symm
    · exact h.th n' nx' ci t e
theorem rwl_keeps (kd : Nat → Nat → Bool) (work : Nat) (l : List Nat) : PKeeps (rwlMach kd work) l (fun _ ths ws _ => RI kd ths ws) where
  idle := fun i s n hi hD h hn => h
  begin_ := by
    intro i s n nx calls c hi hD h hn hc hcc
    have e := rwl_call hc hcc
    subst e
    obtain ⟨x, hx, _⟩ := h.word
    rw [hx] at h ⊢
    refine h.put hn ?_ fun nx' ci t e => ?_
    · refine .inl ⟨rfl, ?_, ?_⟩
      all_goals
        unfold wcode
        rcases (show nx % 3 = 0 ∨ nx % 3 = 1 ∨ nx % 3 = 2 by omega) with h3 | h3 | h3
        · cases hk : kd n (nx / 3) <;> simp [rdHold, wrHold, h3, hk, rwlMach, vbegin] <;> decide
        · have e2 : (nx + 1) / 3 = nx / 3 := by omega
          cases hk : kd n (nx / 3) <;> simp [rdHold, wrHold, h3, e2, hk]
        · cases hk : kd n (nx / 3) <;> simp [rdHold, wrHold, h3, hk, rwlMach, vbegin] <;> decide
    · injection e with e1 e; injection e with e; injection e with e2 e3
      subst e1 e2 e3
      unfold wcode RSh
      rcases (show nx % 3 = 0 ∨ nx % 3 = 1 ∨ nx % 3 = 2 by omega) with h3 | h3 | h3
      · have e2 : (nx + 1) / 3 = nx / 3 := by omega
        rw [if_pos h3, e2]
        cases hk : kd n (nx / 3)
        · exact .inl ⟨rfl, by omega, rfl, .inl rfl⟩
        · exact .inr (.inl ⟨rfl, by omega, rfl, .inl rfl⟩)
      · rw [if_neg (by omega), if_pos h3]
        exact .inr (.inr (.inl ⟨rfl, by omega, rfl⟩))
      · rw [if_neg (by omega), if_neg (by omega)]
        cases hk : kd n (nx / 3)
        · exact .inr (.inr (.inr (.inl ⟨rfl, by omega, .inl rfl⟩)))
        · exact .inr (.inr (.inr (.inr ⟨rfl, by omega, rfl⟩)))
  cont := by
    intro i s n nx ci t hi hD h hn hov
    obtain ⟨x, hx, hx1, hx4⟩ := h.word
    obtain ⟨x', e1, e2, e3⟩ := rsh_ok (work := work) (h.th n nx ci t hn) x hx1 hx4
    rw [hx] at h hov ⊢
    rcases e3 with ⟨_, e4, e5⟩ | ⟨e4, _⟩
    · rw [e1]
      refine h.put hn e5 fun nx' ci' t' e => ?_
      injection e with e6 e; injection e with e; injection e with e7 e8
      subst e6 e7 e8
      exact e4
    · rw [e4] at hov; cases hov
  fin_ := by
    intro i s n nx ci t k d hi hD h hn hov hk ht hdc he htold
    obtain ⟨x, hx, hx1, hx4⟩ := h.word
    obtain ⟨x', e1, e2, e3⟩ := rsh_ok (work := work) (h.th n nx ci t hn) x hx1 hx4
    rw [hx] at h hov ⊢
    rcases e3 with ⟨e4, _⟩ | ⟨_, e5⟩
    · rw [e4] at hov; cases hov
    · refine ⟨?_, e2⟩
      rw [e1]
      exact h.put hn e5 fun nx' ci' t' e => by cases e
theorem rwl_play (kd : Nat → Nat → Bool) (work : Nat) (l : List Nat) : RI kd (play (rwlMach kd work) l).ths (play (rwlMach kd work) l).words ∧ NoErr (play (rwlMach kd work) l).evs := by
  refine (rwl_keeps kd work l).play ⟨rfl, ⟨0, rfl, .inl ⟨rfl, rfl⟩⟩, fun n nx ci t hn => ?_⟩
  have h : (List.replicate 4 (⟨0, none⟩ : PT))[n]? = some ⟨nx, some (ci, t)⟩ := hn
  rw [List.getElem?_replicate] at h
  split at h <;> cases h
/-- a call of the code that writes, inside -/
def wisin (kd : Nat → Nat → Bool) (ds : List Dg) (T : Nat) (d : Dg) : Bool := isin ds T d && kd d.t (d.c / 3)
def risin (kd : Nat → Nat → Bool) (ds : List Dg) (T : Nat) (d : Dg) : Bool := isin ds T d && !kd d.t (d.c / 3)
/-- RwlApart, plain -/
theorem rwl_apart (kd : Nat → Nat → Bool) (work : Nat) (l : List Nat) (T : Nat) (hT : T ≤ l.length) :
    ((doings (play (rwlMach kd work) l).evs).filter (wisin kd (doings (play (rwlMach kd work) l).evs) T)).length = 0 ∨
    (((doings (play (rwlMach kd work) l).evs).filter (wisin kd (doings (play (rwlMach kd work) l).evs) T)).length ≤ 1 ∧ ((doings (play (rwlMach kd work) l).evs).filter (isin (doings (play (rwlMach kd work) l).evs) T)).length ≤ 1) := by
  obtain ⟨hI, _⟩ := rwl_play kd work (l.take T)
  have key : ∀ (d : Dg) (p : PT), isin (doings (play (rwlMach kd work) l).evs) T d = true → (play (rwlMach kd work) (l.take T)).ths[d.t]? = some p → (p.cur = none ∧ p.next = d.c + 1) ∨ p.next = d.c + 2 → rdHold kd d.t p = (!kd d.t (d.c / 3)) ∧ wrHold kd d.t p = kd d.t (d.c / 3) := by
    intro d p hd hn h
    have hc := (isin_iff.1 hd).1
    obtain ⟨nx, cur⟩ := p
    cases cur with
    | none =>
      rcases h with ⟨_, h⟩ | h
      · have h : nx = d.c + 1 := h
        have e : nx / 3 = d.c / 3 := by omega
        rw [← e]; exact none_rd (by omega)
      · have h : nx = d.c + 2 := h
        have e : nx / 3 = d.c / 3 := by omega
        rw [← e]; exact none_2 (by omega)
    | some v =>
      obtain ⟨ci, t⟩ := v
      rcases h with ⟨h, _⟩ | h
      · cases h
      · have h : nx = d.c + 2 := h
        have e : nx / 3 = d.c / 3 := by omega
        rcases hI.th d.t nx ci t hn with ⟨_, h3, _⟩ | ⟨_, h3, _⟩ | ⟨rfl, _, _⟩ | ⟨_, h3, _⟩ | ⟨_, h3, _⟩
        · omega
        · omega
        · rw [← e]; exact ⟨rfl, rfl⟩
        · omega
        · omega
  have hw := inside_count (P := wisin kd (doings (play (rwlMach kd work) l).evs) T) hT (fun d h => by unfold wisin at h; rw [Bool.and_eq_true] at h; exact h.1) (wrHold kd) fun d p hd hn h => by
    unfold wisin at hd; rw [Bool.and_eq_true] at hd
    rw [(key d p hd.1 hn h).2]; exact hd.2
  have hr := inside_count (P := risin kd (doings (play (rwlMach kd work) l).evs) T) hT (fun d h => by unfold risin at h; rw [Bool.and_eq_true] at h; exact h.1) (rdHold kd) fun d p hd hn h => by
    unfold risin at hd; rw [Bool.and_eq_true] at hd
    rw [(key d p hd.1 hn h).1]; exact hd.2
  have hsum : ∀ ds : List Dg, (ds.filter (isin (doings (play (rwlMach kd work) l).evs) T)).length = (ds.filter (wisin kd (doings (play (rwlMach kd work) l).evs) T)).length + (ds.filter (risin kd (doings (play (rwlMach kd work) l).evs) T)).length := by
    intro ds
    induction ds with
    | nil => rfl
    | cons d ds ih =>
      simp only [List.filter_cons]
      unfold wisin risin at ih ⊢
      cases h1 : isin (doings (play (rwlMach kd work) l).evs) T d <;> cases h2 : kd d.t (d.c / 3) <;> simp [ih] <;> omega
  rw [hsum]
  obtain ⟨x, _, h⟩ := hI.w
  rcases h with ⟨_, h⟩ | ⟨_, h1, h2⟩
  · left; omega
  · rcases Nat.eq_zero_or_pos ((doings (play (rwlMach kd work) l).evs).filter (wisin kd (doings (play (rwlMach kd work) l).evs) T)).length with h0 | h0
    · exact .inl h0
    · right; omega
end Go.Proofs.YtnoinojhocicjaaDoor
