/-
  Package barr under whatever schedule: plain laws.
-/
import Derived.Test.YtnoinojhocicjaaDoorSemaLaw
import Derived.Test.YtnoinojhocicjaaDoorCodes4
namespace Go.Proofs.YtnoinojhocicjaaDoor
open Go.RowKit
set_option linter.unusedVariables false

/-! ### the machine -/
def bround (work t : Nat) : List VCall := if 0 < work then [⟨0, [(t : Int)]⟩, ⟨1 + t, []⟩] else [⟨0, [(t : Int)]⟩]
def brows (work t : Nat) : Nat → List VCall
  | 0 => []
  | r + 1 => brows work t r ++ bround work t
/-- is a call one that waits? -/
def iw (work nx : Nat) : Bool := decide (work = 0) || nx % 2 == 0
/-- how many of the first calls wait -/
def wb (work nx : Nat) : Nat := if work = 0 then nx else (nx + 1) / 2
theorem wb_succ (work nx : Nat) : wb work (nx + 1) = wb work nx + b2n (iw work nx) := by
  unfold wb iw
  by_cases h : work = 0
  · simp [h, b2n]
  · rw [if_neg h, if_neg h]
    rcases (show nx % 2 = 0 ∨ nx % 2 = 1 by omega) with h2 | h2 <;> simp [h, h2, b2n] <;> omega
theorem brows_at (work t : Nat) : ∀ (r nx : Nat) (c : VCall), (brows work t r)[nx]? = some c → c = (if iw work nx then ⟨0, [(t : Int)]⟩ else ⟨1 + t, []⟩) ∧ wb work (nx + 1) ≤ r := by
  intro r
  have key : (brows work t r).length = if work = 0 then r else 2 * r := by
    induction r with
    | zero => simp [brows]
    | succ r ih =>
      rw [brows, List.length_append, ih]
      unfold bround
      by_cases h : work = 0
      · simp [h]
      · rw [if_neg h, if_neg h, if_pos (by omega)]; simp; omega
  induction r with
  | zero => intro nx c h; simp [brows] at h
  | succ r ih =>
    have key' : (brows work t r).length = if work = 0 then r else 2 * r := by
      rw [brows, List.length_append] at key
      unfold bround at key
      by_cases h : work = 0
      · simp only [h] at key ⊢; simp at key ⊢; omega
      · rw [if_neg h] at key ⊢; rw [if_pos (by omega)] at key; simp at key; omega
    intro nx c h
    rw [brows, List.getElem?_append] at h
    split at h
    · obtain ⟨h1, h2⟩ := ih key' nx c h
      exact ⟨h1, by omega⟩
    · rename_i hl
      rw [key'] at hl h
      unfold bround at h
      by_cases hw : work = 0
      · rw [if_neg (by omega)] at h
        rw [if_pos hw] at hl h
        rw [List.getElem?_singleton] at h
        split at h
        · injection h with h
          refine ⟨by rw [← h]; simp [iw, hw], ?_⟩
          unfold wb; rw [if_pos hw]; omega
        · cases h
      · rw [if_pos (by omega)] at h
        rw [if_neg hw] at hl h
        obtain ⟨u, hu⟩ : ∃ u, nx = 2 * r + u := ⟨nx - 2 * r, by omega⟩
        subst hu
        rw [Nat.add_sub_cancel_left] at h
        match u, h with
        | 0, h =>
          simp at h
          refine ⟨by rw [← h]; simp [iw], ?_⟩
          unfold wb; rw [if_neg hw]; omega
        | 1, h =>
          simp at h
          refine ⟨by rw [← h]; simp [iw, hw], ?_⟩
          unfold wb; rw [if_neg hw]; omega
        | u + 2, h => simp at h
def barrMach (n often work : Nat) : Mach := ⟨[0], waitCode (n : Int) :: (List.range n).map (fun t => lops (work * (t + 1)) (work * (t + 1))), (List.range n).map fun t => brows work t often⟩
theorem barr_call {n often work i nx : Nat} {calls : List VCall} {c : VCall} (h : (barrMach n often work).threads[i]? = some calls) (hc : calls[nx]? = some c) : i < n ∧ c = (if iw work nx then ⟨0, [(i : Int)]⟩ else ⟨1 + i, []⟩) ∧ wb work (nx + 1) ≤ often := by
  unfold barrMach at h
  simp only at h
  rw [List.getElem?_map] at h
  obtain ⟨u, hu, rfl⟩ := Option.map_eq_some_iff.1 h
  rw [List.getElem?_eq_some_iff] at hu
  obtain ⟨h1, h2⟩ := hu
  simp at h1 h2
  subst h2
  exact ⟨h1, brows_at work i often nx c hc⟩
theorem barr_code1 {n often work i : Nat} (hi : i < n) : (barrMach n often work).codes.getD (1 + i) [] = lops (work * (i + 1)) (work * (i + 1)) := by
  unfold barrMach
  rw [List.getD_eq_getElem?_getD, Nat.add_comm, List.getElem?_cons_succ, List.getElem?_map, List.getElem?_eq_getElem (by simpa using hi)]
  simp
/-! ### one step of Wait -/
def btTh (p : Nat) (me n x y z u : Int) : Th := ⟨me :: 1 :: n :: x :: 0 :: y :: z :: u :: List.replicate 16 0, p, [], 0, false⟩
theorem bt_begin (n : Int) (me : Int) : vbegin (waitCode n).length [me] = ⟨me :: List.replicate 23 0, 0, [], 0, false⟩ := rfl
theorem bt_0 (n me : Int) (ws : List Int) : vstep (waitCode n) ⟨me :: List.replicate 23 0, 0, [], 0, false⟩ ws = (⟨me :: 1 :: List.replicate 22 0, 1, [], 0, false⟩, ws) := rfl
theorem bt_1 (n me : Int) (ws : List Int) : vstep (waitCode n) ⟨me :: 1 :: List.replicate 22 0, 1, [], 0, false⟩ ws = (btTh 2 me n 0 0 0 0, ws) := rfl
theorem bt_2 (n me x y z u w : Int) : vstep (waitCode n) (btTh 2 me n x y z u) [w] = (btTh 3 me n w y z u, [w]) := by
  unfold vstep vdo vother
  simp only [btTh, waitCode, List.getElem?_cons_succ, List.getElem?_cons_zero]
  simp [vget, vset, wrap64]
theorem bt_3 (n me x y z u : Int) (ws : List Int) : vstep (waitCode n) (btTh 3 me n x y z u) ws = (btTh 4 me n x (wrap64 (x + 1)) z u, ws) := rfl
theorem bt_4 (n me x y z u w : Int) : vstep (waitCode n) (btTh 4 me n x y z u) [w] = (if w = x then (btTh 5 me n x 1 z u, [y]) else (btTh 5 me n x 0 z u, [w])) := by
  unfold vstep vdo vother
  simp only [btTh, waitCode, List.getElem?_cons_succ, List.getElem?_cons_zero]
  simp [vget, vset, wrap64]
  split <;> rfl
theorem bt_5a (n me x z u : Int) (ws : List Int) : vstep (waitCode n) (btTh 5 me n x 1 z u) ws = (btTh 6 me n x 1 z u, ws) := rfl
theorem bt_5b (n me x z u : Int) (ws : List Int) : vstep (waitCode n) (btTh 5 me n x 0 z u) ws = (btTh 2 me n x 0 z u, ws) := rfl
theorem bt_6 (n me x y z u : Int) (ws : List Int) : vstep (waitCode n) (btTh 6 me n x y z u) ws = (btTh 7 me n x y (vquo x n false) u, ws) := rfl
theorem bt_7 (n me x y z u : Int) (ws : List Int) : vstep (waitCode n) (btTh 7 me n x y z u) ws = (btTh 8 me n x y (wrap64 (z + 1)) u, ws) := rfl
theorem bt_8 (n me x y z u : Int) (ws : List Int) : vstep (waitCode n) (btTh 8 me n x y z u) ws = (btTh 9 me n x y (wrap64 (z * n)) u, ws) := rfl
theorem bt_9 (n me x y z u w : Int) : vstep (waitCode n) (btTh 9 me n x y z u) [w] = (btTh 10 me n w y z u, [w]) := by
  unfold vstep vdo vother
  simp only [btTh, waitCode, List.getElem?_cons_succ, List.getElem?_cons_zero]
  simp [vget, vset, wrap64]
theorem bt_10 (n me x y z u : Int) (ws : List Int) : vstep (waitCode n) (btTh 10 me n x y z u) ws = (btTh 11 me n x y z (vflag (decide (x < z))), ws) := rfl
theorem bt_11a (n me x y z : Int) (ws : List Int) : vstep (waitCode n) (btTh 11 me n x y z 1) ws = (btTh 9 me n x y z 1, ws) := rfl
theorem bt_11b (n me x y z : Int) (ws : List Int) : vstep (waitCode n) (btTh 11 me n x y z 0) ws = (⟨me :: 1 :: n :: x :: 0 :: y :: z :: 0 :: List.replicate 16 0, 12, [], 0, true⟩, ws) := rfl
/-! ### who came -/
def arrived (t : Th) : Bool := decide (6 ≤ t.pc) || (t.pc == 5 && vget t.regs 5 == 1)
/-- how many of its waits a thread has ended, in how many it has come -/
def finW (work : Nat) (p : PT) : Nat := match p.cur with | none => wb work p.next | some (ci, t) => if ci = 0 then wb work p.next - 1 else wb work p.next
def arrW (work : Nat) (p : PT) : Nat := match p.cur with | none => wb work p.next | some (ci, t) => if ci = 0 ∧ arrived t = false then wb work p.next - 1 else wb work p.next
theorem fin_arr (work : Nat) (p : PT) : finW work p ≤ arrW work p ∧ arrW work p ≤ finW work p + 1 ∧ arrW work p ≤ wb work p.next := by
  obtain ⟨nx, cur⟩ := p
  cases cur with
  | none => simp [finW, arrW]
  | some v =>
    obtain ⟨ci, t⟩ := v
    simp only [finW, arrW]
    by_cases h : ci = 0
    · rw [if_pos h]; split <;> omega
    · rw [if_neg h, if_neg (fun e => h e.1)]; omega
def sumF {α : Type} (f : α → Nat) : List α → Nat
  | [] => 0
  | x :: l => f x + sumF f l
theorem sumF_set {α : Type} (f : α → Nat) : ∀ (l : List α) (n : Nat) (p q : α), l[n]? = some p → sumF f (l.set n q) + f p = sumF f l + f q
  | [], n, p, q, h => by simp at h
  | x :: l, 0, p, q, h => by
    simp at h; subst h
    simp only [List.set_cons_zero, sumF]; omega
  | x :: l, n + 1, p, q, h => by
    have ih := sumF_set f l n p q (by simpa using h)
    simp only [List.set_cons_succ, sumF]; omega
theorem sumF_ge {α : Type} (f : α → Nat) (b : Nat) : ∀ (l : List α), (∀ p ∈ l, b ≤ f p) → l.length * b ≤ sumF f l
  | [], _ => by simp [sumF]
  | x :: l, h => by
    have ih := sumF_ge f b l fun p hp => h p (List.mem_cons_of_mem _ hp)
    have := h x List.mem_cons_self
    rw [List.length_cons, Nat.succ_mul]; unfold sumF; omega
theorem sumF_le {α : Type} (f : α → Nat) (b : Nat) : ∀ (l : List α), (∀ p ∈ l, f p ≤ b) → sumF f l ≤ l.length * b
  | [], _ => by simp [sumF]
  | x :: l, h => by
    have ih := sumF_le f b l fun p hp => h p (List.mem_cons_of_mem _ hp)
    have := h x List.mem_cons_self
    rw [List.length_cons, Nat.succ_mul]; unfold sumF; omega
theorem sumF_lt {α : Type} (f : α → Nat) (b : Nat) : ∀ (l : List α) (i : Nat) (q : α), (∀ p ∈ l, f p ≤ b) → l[i]? = some q → f q < b → sumF f l < l.length * b
  | [], i, q, _, h, _ => by simp at h
  | x :: l, 0, q, h, hq, hl => by
    simp at hq; subst hq
    have ih := sumF_le f b l fun p hp => h p (List.mem_cons_of_mem _ hp)
    rw [List.length_cons, Nat.succ_mul]; unfold sumF; omega
  | x :: l, i + 1, q, h, hq, hl => by
    have ih := sumF_lt f b l i q (fun p hp => h p (List.mem_cons_of_mem _ hp)) (by simpa using hq) hl
    have := h x List.mem_cons_self
    rw [List.length_cons, Nat.succ_mul]; unfold sumF; omega
/-- a thread within Wait, its wait being the one of number b - 1 -/
def WSh (n b N : Nat) (t : Th) : Prop :=
  (∃ me, t = ⟨me :: List.replicate 23 0, 0, [], 0, false⟩) ∨ (∃ me, t = ⟨me :: 1 :: List.replicate 22 0, 1, [], 0, false⟩) ∨ (∃ me x y z u, t = btTh 2 me n x y z u) ∨
  (∃ (me : Int) (x : Nat) (y z u : Int), x ≤ N ∧ t = btTh 3 me n x y z u) ∨ (∃ (me : Int) (x : Nat) (z u : Int), x ≤ N ∧ t = btTh 4 me n x ((x + 1 : Nat) : Int) z u) ∨
  (∃ (me : Int) (x : Nat) (z u : Int), n * (b - 1) ≤ x ∧ x < n * b ∧ t = btTh 5 me n x 1 z u) ∨ (∃ me x z u, t = btTh 5 me n x 0 z u) ∨
  (∃ (me : Int) (x : Nat) (z u : Int), n * (b - 1) ≤ x ∧ x < n * b ∧ t = btTh 6 me n x 1 z u) ∨
  (∃ (me : Int) (x : Int) (u : Int), t = btTh 7 me n x 1 ((b - 1 : Nat) : Int) u) ∨ (∃ (me : Int) (x : Int) (u : Int), t = btTh 8 me n x 1 (b : Int) u) ∨
  (∃ (me : Int) (x : Int) (u : Int), t = btTh 9 me n x 1 ((n * b : Nat) : Int) u) ∨ (∃ (me : Int) (x : Nat) (u : Int), x ≤ N ∧ t = btTh 10 me n x 1 ((n * b : Nat) : Int) u) ∨
  (∃ (me : Int) (x : Int), t = btTh 11 me n x 1 ((n * b : Nat) : Int) 1) ∨ (∃ (me : Int) (x : Int), n * b ≤ N ∧ t = btTh 11 me n x 1 ((n * b : Nat) : Int) 0)
theorem WSh.mono {n b N N' : Nat} {t : Th} (h : WSh n b N t) (hN : N ≤ N') : WSh n b N' t := by
  unfold WSh at h ⊢
  rcases h with h | h | h | ⟨me, x, y, z, u, h1, h⟩ | ⟨me, x, z, u, h1, h⟩ | h | h | h | h | h | h | ⟨me, x, u, h1, h⟩ | h | ⟨me, x, h1, h⟩
  · exact .inl h
  · exact .inr (.inl h)
  · exact .inr (.inr (.inl h))
  · exact .inr (.inr (.inr (.inl ⟨me, x, y, z, u, by omega, h⟩)))
  · exact .inr (.inr (.inr (.inr (.inl ⟨me, x, z, u, by omega, h⟩))))
  · exact .inr (.inr (.inr (.inr (.inr (.inl h)))))
  · exact .inr (.inr (.inr (.inr (.inr (.inr (.inl h))))))
  · exact .inr (.inr (.inr (.inr (.inr (.inr (.inr (.inl h)))))))
  · exact .inr (.inr (.inr (.inr (.inr (.inr (.inr (.inr (.inl h))))))))
  · exact .inr (.inr (.inr (.inr (.inr (.inr (.inr (.inr (.inr (.inl h)))))))))
  · exact .inr (.inr (.inr (.inr (.inr (.inr (.inr (.inr (.inr (.inr (.inl h))))))))))
  · exact .inr (.inr (.inr (.inr (.inr (.inr (.inr (.inr (.inr (.inr (.inr (.inl ⟨me, x, u, by omega, h⟩)))))))))))
  · exact .inr (.inr (.inr (.inr (.inr (.inr (.inr (.inr (.inr (.inr (.inr (.inr (.inl h))))))))))))
  · exact .inr (.inr (.inr (.inr (.inr (.inr (.inr (.inr (.inr (.inr (.inr (.inr (.inr ⟨me, x, by omega, h⟩))))))))))))
/-- what a step of Wait does -/
def BStep (n b N : Nat) (t : Th) (r : Th × List Int) : Prop :=
  ∃ N' : Nat, r.2 = [(N' : Int)] ∧ r.1.err = 0 ∧ ((r.1.over = false ∧ WSh n b N' r.1 ∧ ((N' = N ∧ arrived r.1 = arrived t) ∨ (N' = N + 1 ∧ arrived t = false ∧ arrived r.1 = true))) ∨ (r.1.over = true ∧ N' = N ∧ n * b ≤ N ∧ arrived t = true))
theorem wait_ok {n b N : Nat} (hn : 1 ≤ n) (hn4 : n ≤ 4) (hb : 1 ≤ b) (hb2 : b ≤ 10) (hN : N ≤ 40) {t : Th} (hA : arrived t = false → n * (b - 1) ≤ N ∧ N < n * b) (h : WSh n b N t) : BStep n b N t (vstep (waitCode (n : Int)) t [(N : Int)]) := by
  have same : ∀ t' : Th, t'.err = 0 → t'.over = false → WSh n b N t' → arrived t' = arrived t → BStep n b N t (t', [(N : Int)]) := fun t' e1 e2 e3 e4 => ⟨N, rfl, e1, .inl ⟨e2, e3, .inl ⟨rfl, e4⟩⟩⟩
  have hnb : n * b ≤ 40 := Nat.le_trans (Nat.mul_le_mul hn4 hb2) (by decide)
  unfold WSh at h
  rcases h with ⟨me, rfl⟩ | ⟨me, rfl⟩ | ⟨me, x, y, z, u, rfl⟩ | ⟨me, x, y, z, u, h1, rfl⟩ | ⟨me, x, z, u, h1, rfl⟩ | ⟨me, x, z, u, h1, h2, rfl⟩ | ⟨me, x, z, u, rfl⟩ | ⟨me, x, z, u, h1, h2, rfl⟩ | ⟨me, x, u, rfl⟩ | ⟨me, x, u, rfl⟩ | ⟨me, x, u, rfl⟩ | ⟨me, x, u, h1, rfl⟩ | ⟨me, x, rfl⟩ | ⟨me, x, h1, rfl⟩
  · rw [bt_0]; exact same _ rfl rfl (.inr (.inl ⟨_, rfl⟩)) rfl
  · rw [bt_1]; exact same _ rfl rfl (.inr (.inr (.inl ⟨_, _, _, _, _, rfl⟩))) rfl
  · rw [bt_2]; exact same _ rfl rfl (.inr (.inr (.inr (.inl ⟨_, _, _, _, _, Nat.le_refl _, rfl⟩)))) rfl
  · rw [bt_3]
    have e : wrap64 ((x : Int) + 1) = ((x + 1 : Nat) : Int) := by rw [wrap_sm (by omega) (by omega)]; omega
    rw [e]
    exact same _ rfl rfl (.inr (.inr (.inr (.inr (.inl ⟨_, _, _, _, h1, rfl⟩))))) rfl
  · rw [bt_4]
    obtain ⟨g1, g2⟩ := hA rfl
    split
    · rename_i e
      have e : N = x := by omega
      subst e
      exact ⟨N + 1, rfl, rfl, .inl ⟨rfl, .inr (.inr (.inr (.inr (.inr (.inl ⟨_, _, _, _, g1, g2, rfl⟩))))), .inr ⟨rfl, rfl, rfl⟩⟩⟩
    · exact same _ rfl rfl (.inr (.inr (.inr (.inr (.inr (.inr (.inl ⟨_, _, _, _, rfl⟩))))))) rfl
  · rw [bt_5a]; exact same _ rfl rfl (.inr (.inr (.inr (.inr (.inr (.inr (.inr (.inl ⟨_, _, _, _, h1, h2, rfl⟩)))))))) rfl
  · rw [bt_5b]; exact same _ rfl rfl (.inr (.inr (.inl ⟨_, _, _, _, _, rfl⟩))) rfl
  · rw [bt_6]
    have e : vquo (x : Int) (n : Int) false = ((b - 1 : Nat) : Int) := by
      have hq : x / n = b - 1 := by
        apply Nat.div_eq_of_lt_le
        · rw [Nat.mul_comm]; exact h1
        · rw [Nat.mul_comm, Nat.sub_add_cancel hb]; exact h2
      unfold vquo
      rw [if_neg (by omega)]
      simp only [Bool.false_eq_true, if_false]
      rw [Int.tdiv_eq_ediv_of_nonneg (by omega), ← Int.natCast_ediv, hq, wrap_sm (by omega) (by omega)]
    rw [e]
    exact same _ rfl rfl (.inr (.inr (.inr (.inr (.inr (.inr (.inr (.inr (.inl ⟨_, _, _, rfl⟩))))))))) rfl
  · rw [bt_7]
    have e : wrap64 (((b - 1 : Nat) : Int) + 1) = (b : Int) := by rw [wrap_sm (by omega) (by omega)]; omega
    rw [e]
    exact same _ rfl rfl (.inr (.inr (.inr (.inr (.inr (.inr (.inr (.inr (.inr (.inl ⟨_, _, _, rfl⟩)))))))))) rfl
  · rw [bt_8]
    have e0 : (b : Int) * (n : Int) = ((n * b : Nat) : Int) := by rw [Nat.mul_comm]; simp
    have e : wrap64 ((b : Int) * (n : Int)) = ((n * b : Nat) : Int) := by rw [e0, wrap_sm (by omega) (by omega)]
    rw [e]
    exact same _ rfl rfl (.inr (.inr (.inr (.inr (.inr (.inr (.inr (.inr (.inr (.inr (.inl ⟨_, _, _, rfl⟩))))))))))) rfl
  · rw [bt_9]; exact same _ rfl rfl (.inr (.inr (.inr (.inr (.inr (.inr (.inr (.inr (.inr (.inr (.inr (.inl ⟨_, _, _, Nat.le_refl _, rfl⟩)))))))))))) rfl
  · rw [bt_10]
    by_cases hl : (x : Int) < ((n * b : Nat) : Int)
    · rw [decide_eq_true hl]; exact same _ rfl rfl (.inr (.inr (.inr (.inr (.inr (.inr (.inr (.inr (.inr (.inr (.inr (.inr (.inl ⟨_, _, rfl⟩))))))))))))) rfl
    · rw [decide_eq_false hl]; exact same _ rfl rfl (.inr (.inr (.inr (.inr (.inr (.inr (.inr (.inr (.inr (.inr (.inr (.inr (.inr ⟨_, _, by omega, rfl⟩))))))))))))) rfl
  · rw [bt_11a]; exact same _ rfl rfl (.inr (.inr (.inr (.inr (.inr (.inr (.inr (.inr (.inr (.inr (.inl ⟨_, _, _, rfl⟩))))))))))) rfl
  · rw [bt_11b]; exact ⟨N, rfl, rfl, .inr ⟨rfl, rfl, h1, rfl⟩⟩
/-! ### what every run keeps -/
structure BarI (n often work : Nat) (ths : List PT) (ws : List Int) : Prop where
  len : ths.length = n
  w : ws = [(sumF (arrW work) ths : Int)]
  K : ∀ (i j : Nat) (p q : PT), ths[i]? = some p → ths[j]? = some q → finW work q ≤ arrW work p
  th : ∀ (i nx ci : Nat) (t : Th), ths[i]? = some ⟨nx, some (ci, t)⟩ → 1 ≤ nx ∧ ((ci = 0 ∧ iw work (nx - 1) = true ∧ WSh n (wb work nx) (sumF (arrW work) ths) t) ∨ (ci = 1 + i ∧ i < n ∧ iw work (nx - 1) = false ∧ t.err = 0))
  bd : ∀ (i : Nat) (p : PT), ths[i]? = some p → wb work p.next ≤ often
theorem BarI.sum_le {n often work : Nat} {ths : List PT} {ws : List Int} (h : BarI n often work ths ws) (hn : n ≤ 4) (ho : often ≤ 10) : sumF (arrW work) ths ≤ 40 := by
  have h1 := sumF_le (arrW work) often ths fun p hp => by
    obtain ⟨i, hi⟩ := List.getElem?_of_mem hp
    exact Nat.le_trans (fin_arr work p).2.2 (h.bd i p hi)
  rw [h.len] at h1
  exact Nat.le_trans h1 (Nat.le_trans (Nat.mul_le_mul hn ho) (by decide))
/-- who has not come is in a round that is not full -/
theorem BarI.open_ {n often work : Nat} {ths : List PT} {ws : List Int} (h : BarI n often work ths ws) {i nx : Nat} {t : Th} (hi : ths[i]? = some ⟨nx, some (0, t)⟩) (hw : iw work (nx - 1) = true) (h1 : 1 ≤ nx) (ha : arrived t = false) :
    n * (wb work nx - 1) ≤ sumF (arrW work) ths ∧ sumF (arrW work) ths < n * wb work nx := by
  have hb : 1 ≤ wb work nx := by
    obtain ⟨m, rfl⟩ : ∃ m, nx = m + 1 := ⟨nx - 1, by omega⟩
    rw [wb_succ]
    rw [Nat.add_sub_cancel] at hw
    rw [hw]; simp [b2n]
  have ef : finW work ⟨nx, some (0, t)⟩ = wb work nx - 1 := by simp [finW]
  have ea : arrW work ⟨nx, some (0, t)⟩ = wb work nx - 1 := by simp [arrW, ha]
  refine ⟨?_, ?_⟩
  · rw [← h.len]
    refine sumF_ge _ _ _ fun p hp => ?_
    obtain ⟨j, hj⟩ := List.getElem?_of_mem hp
    rw [← ef]
    exact h.K j i p _ hj hi
  · rw [← h.len]
    refine sumF_lt _ _ _ i _ (fun p hp => ?_) hi (by rw [ea]; omega)
    obtain ⟨j, hj⟩ := List.getElem?_of_mem hp
    have h2 := h.K i j _ p hi hj
    have h3 := (fin_arr work p).2.1
    rw [ea] at h2
    omega
/-- where a round is full all have come -/
theorem BarI.full {n often work b : Nat} {ths : List PT} {ws : List Int} (h : BarI n often work ths ws) (hb : n * b ≤ sumF (arrW work) ths) : ∀ (i : Nat) (p : PT), ths[i]? = some p → b ≤ arrW work p := by
  intro i p hi
  rcases Nat.lt_or_ge (arrW work p) b with hl | hl
  · have := sumF_lt (arrW work) b ths i p (fun q hq => by
      obtain ⟨j, hj⟩ := List.getElem?_of_mem hq
      have h2 := h.K i j p q hi hj
      have h3 := (fin_arr work q).2.1
      omega) hi hl
    rw [h.len] at this
    omega
  · exact hl
theorem BarI.put {n often work : Nat} {ths : List PT} {ws : List Int} (h : BarI n often work ths ws) {i : Nat} {p q : PT} (hi : ths[i]? = some p) (ha : arrW work p ≤ arrW work q) (hK : ∀ (j : Nat) (r : PT), ths[j]? = some r → finW work q ≤ arrW work r)
    (hq : ∀ nx ci t, q = ⟨nx, some (ci, t)⟩ → 1 ≤ nx ∧ ((ci = 0 ∧ iw work (nx - 1) = true ∧ WSh n (wb work nx) (sumF (arrW work) (ths.set i q)) t) ∨ (ci = 1 + i ∧ i < n ∧ iw work (nx - 1) = false ∧ t.err = 0))) (hb : wb work q.next ≤ often) :
    BarI n often work (ths.set i q) [(sumF (arrW work) (ths.set i q) : Int)] := by
  have hs := sumF_set (arrW work) ths i p q hi
  refine ⟨by rw [List.length_set]; exact h.len, rfl, fun a b' x y hx hy => ?_, fun a nx ci t hx => ?_, fun a x hx => ?_⟩
  · rcases get_set hx with ⟨ea, ex⟩ | ⟨_, hx'⟩
    · subst ea ex
      rcases get_set hy with ⟨_, ey⟩ | ⟨_, hy'⟩
      · subst ey; exact (fin_arr work _).1
      · exact Nat.le_trans (h.K _ _ _ _ hi hy') ha
    · rcases get_set hy with ⟨_, ey⟩ | ⟨_, hy'⟩
      · subst ey; exact hK _ _ hx'
      · exact h.K _ _ _ _ hx' hy'
  · rcases get_set hx with ⟨e1, e⟩ | ⟨_, e⟩
    · subst e1; exact hq nx ci t e.symm
    · obtain ⟨h1, h2⟩ := h.th a nx ci t e
      refine ⟨h1, ?_⟩
      rcases h2 with ⟨a1, a2, a3⟩ | a1
      · exact .inl ⟨a1, a2, a3.mono (by omega)⟩
      · exact .inr a1
  · rcases get_set hx with ⟨_, e⟩ | ⟨_, e⟩
    · rw [e]; exact hb
    · exact h.bd a x e
theorem barr_keeps {n often work : Nat} (hn : 1 ≤ n) (hn4 : n ≤ 4) (ho : often ≤ 10) (l : List Nat) : PKeeps (barrMach n often work) l (fun _ ths ws _ => BarI n often work ths ws) where
  idle := fun i s n hi hD h hn => h
  begin_ := by
    intro i s t nx calls c hi hD h hth hc hcc
    obtain ⟨ht, e, hb⟩ := barr_call hc hcc
    have hsum : sumF (arrW work) (s.ths.set t ⟨nx + 1, some (c.code, vbegin ((barrMach n often work).codes.getD c.code []).length c.args)⟩) = sumF (arrW work) s.ths ∧ finW work ⟨nx + 1, some (c.code, vbegin ((barrMach n often work).codes.getD c.code []).length c.args)⟩ = finW work ⟨nx, none⟩ ∧ arrW work ⟨nx + 1, some (c.code, vbegin ((barrMach n often work).codes.getD c.code []).length c.args)⟩ = arrW work ⟨nx, none⟩ ∧
        ((c.code = 0 ∧ iw work nx = true ∧ vbegin ((barrMach n often work).codes.getD c.code []).length c.args = ⟨(t : Int) :: List.replicate 23 0, 0, [], 0, false⟩) ∨ (c.code = 1 + t ∧ iw work nx = false ∧ (vbegin ((barrMach n often work).codes.getD c.code []).length c.args).err = 0)) := by
      have hs := sumF_set (arrW work) s.ths t ⟨nx, none⟩ ⟨nx + 1, some (c.code, vbegin ((barrMach n often work).codes.getD c.code []).length c.args)⟩ hth
      have hw := wb_succ work nx
      cases hiw : iw work nx with
      | true =>
        rw [hiw] at hw e
        simp only [b2n, if_true] at hw e
        have e1 : finW work ⟨nx + 1, some (c.code, vbegin ((barrMach n often work).codes.getD c.code []).length c.args)⟩ = finW work ⟨nx, none⟩ := by
          rw [e]; simp [finW, hw]
        have e2 : arrW work ⟨nx + 1, some (c.code, vbegin ((barrMach n often work).codes.getD c.code []).length c.args)⟩ = arrW work ⟨nx, none⟩ := by
          rw [e]; simp [arrW, hw, vbegin, arrived]
        exact ⟨by omega, e1, e2, .inl ⟨by rw [e], rfl, by rw [e]; rfl⟩⟩
      | false =>
        rw [hiw] at hw e
        simp only [b2n, Bool.false_eq_true, if_false] at hw e
        have e1 : finW work ⟨nx + 1, some (c.code, vbegin ((barrMach n often work).codes.getD c.code []).length c.args)⟩ = finW work ⟨nx, none⟩ := by
          rw [e]; simp only [finW]; rw [if_neg (by omega), hw]; rfl
        have e2 : arrW work ⟨nx + 1, some (c.code, vbegin ((barrMach n often work).codes.getD c.code []).length c.args)⟩ = arrW work ⟨nx, none⟩ := by
          rw [e]; simp only [arrW]; rw [if_neg (by omega), hw]; rfl
        exact ⟨by omega, e1, e2, .inr ⟨by rw [e], rfl, rfl⟩⟩
    obtain ⟨e1, e2, e3, e4⟩ := hsum
    have := h.put (q := ⟨nx + 1, some (c.code, vbegin ((barrMach n often work).codes.getD c.code []).length c.args)⟩) hth (by rw [e3]; exact Nat.le_refl _) (fun j r hj => by rw [e2]; exact h.K j t r _ hj hth) (fun nx' ci t' e => by
      injection e with e6 e; injection e with e; injection e with e7 e8
      subst e6 e7 e8
      refine ⟨by omega, ?_⟩
      rw [Nat.add_sub_cancel]
      rcases e4 with ⟨a1, a2, a3⟩ | ⟨a1, a2, a3⟩
      · exact .inl ⟨a1, a2, by rw [a3]; exact .inl ⟨_, rfl⟩⟩
      · exact .inr ⟨a1, ht, a2, a3⟩) hb
    rw [e1, ← h.w] at this
    exact this
  cont := by
    intro i s t nx ci th hi hD h hth hov
    obtain ⟨h1, h2⟩ := h.th t nx ci th hth
    have hN := h.sum_le hn4 ho
    have hbd := h.bd t _ hth
    have hw := h.w
    rw [hw] at hov ⊢
    rcases h2 with ⟨rfl, hiw, hS⟩ | ⟨rfl, ht, hiw, hE⟩
    · have hb : 1 ≤ wb work nx := by
        obtain ⟨m, rfl⟩ : ∃ m, nx = m + 1 := ⟨nx - 1, by omega⟩
        rw [wb_succ]
        rw [Nat.add_sub_cancel] at hiw
        rw [hiw]; simp [b2n]
      have hbd : wb work nx ≤ often := hbd
      obtain ⟨N', e1, e2, e3⟩ := wait_ok hn hn4 hb (by omega) hN (fun ha => h.open_ hth hiw h1 ha) hS
      have hov : (vstep (waitCode (n : Int)) th [(sumF (arrW work) s.ths : Int)]).1.over = false := hov
      show BarI n often work (s.ths.set t ⟨nx, some (0, (vstep (waitCode (n : Int)) th [(sumF (arrW work) s.ths : Int)]).1)⟩) (vstep (waitCode (n : Int)) th [(sumF (arrW work) s.ths : Int)]).2
      rcases e3 with ⟨_, e4, e5⟩ | ⟨e4, _⟩
      · have hs := sumF_set (arrW work) s.ths t _ ⟨nx, some (0, (vstep (waitCode (n : Int)) th [(sumF (arrW work) s.ths : Int)]).1)⟩ hth
        have hsum : sumF (arrW work) (s.ths.set t ⟨nx, some (0, (vstep (waitCode (n : Int)) th [(sumF (arrW work) s.ths : Int)]).1)⟩) = N' ∧ arrW work ⟨nx, some (0, th)⟩ ≤ arrW work ⟨nx, some (0, (vstep (waitCode (n : Int)) th [(sumF (arrW work) s.ths : Int)]).1)⟩ := by
          rcases e5 with ⟨e5, e6⟩ | ⟨e5, e6, e7⟩
          · simp only [arrW, e6] at hs ⊢
            exact ⟨by omega, Nat.le_refl _⟩
          · simp only [arrW, e6, e7] at hs ⊢
            simp at hs ⊢
            omega
        have := h.put (q := ⟨nx, some (0, (vstep (waitCode (n : Int)) th [(sumF (arrW work) s.ths : Int)]).1)⟩) hth hsum.2 (fun j r hj => h.K j t r ⟨nx, some (0, th)⟩ hj hth) (fun nx' ci t' e => by
          injection e with e6 e; injection e with e; injection e with e7 e8
          subst e6 e7 e8
          exact ⟨h1, .inl ⟨rfl, hiw, by rw [hsum.1]; exact e4⟩⟩) hbd
        rw [hsum.1] at this
        rw [e1]
        exact this
      · rw [e4] at hov; cases hov
    · rw [barr_code1 ht] at hov ⊢
      obtain ⟨e1, e2⟩ := lops_step (work * (t + 1)) th [(sumF (arrW work) s.ths : Int)] hE
      rw [e1]
      have hc : ∀ th' : Th, arrW work ⟨nx, some (1 + t, th')⟩ = wb work nx ∧ finW work ⟨nx, some (1 + t, th')⟩ = wb work nx := fun th' => by
        simp only [arrW, finW]; rw [if_neg (by omega), if_neg (by omega)]; exact ⟨rfl, rfl⟩
      have hs := sumF_set (arrW work) s.ths t _ ⟨nx, some (1 + t, (vstep (lops (work * (t + 1)) (work * (t + 1))) th [(sumF (arrW work) s.ths : Int)]).1)⟩ hth
      rw [(hc _).1, (hc _).1] at hs
      have := h.put (q := ⟨nx, some (1 + t, (vstep (lops (work * (t + 1)) (work * (t + 1))) th [(sumF (arrW work) s.ths : Int)]).1)⟩) hth (by rw [(hc _).1, (hc _).1]; exact Nat.le_refl _) (fun j r hj => by rw [(hc _).2, ← (hc th).2]; exact h.K j t r _ hj hth) (fun nx' ci t' e => by
        injection e with e6 e; injection e with e; injection e with e7 e8
        subst e6 e7 e8
        exact ⟨h1, .inr ⟨rfl, ht, hiw, e2⟩⟩) hbd
      rw [show sumF (arrW work) (s.ths.set t ⟨nx, some (1 + t, (vstep (lops (work * (t + 1)) (work * (t + 1))) th [(sumF (arrW work) s.ths : Int)]).1)⟩) = sumF (arrW work) s.ths by omega] at this
      exact this
  fin_ := by
    intro i s t nx ci th k d hi hD h hth hov hk ht' hdc he htold
    obtain ⟨h1, h2⟩ := h.th t nx ci th hth
    have hN := h.sum_le hn4 ho
    have hbd := h.bd t _ hth
    have hw := h.w
    rw [hw] at hov ⊢
    have hq : ∀ (N : Nat) (nx' ci : Nat) (t' : Th), (⟨nx, none⟩ : PT) = ⟨nx', some (ci, t')⟩ → 1 ≤ nx' ∧ ((ci = 0 ∧ iw work (nx' - 1) = true ∧ WSh n (wb work nx') N t') ∨ (ci = 1 + t ∧ t < n ∧ iw work (nx' - 1) = false ∧ t'.err = 0)) := fun N nx' ci t' e => by cases e
    have ea : arrW work ⟨nx, none⟩ = wb work nx := rfl
    have ef : finW work ⟨nx, none⟩ = wb work nx := rfl
    rcases h2 with ⟨rfl, hiw, hS⟩ | ⟨rfl, ht, hiw, hE⟩
    · have hb : 1 ≤ wb work nx := by
        obtain ⟨m, rfl⟩ : ∃ m, nx = m + 1 := ⟨nx - 1, by omega⟩
        rw [wb_succ]
        rw [Nat.add_sub_cancel] at hiw
        rw [hiw]; simp [b2n]
      have hbd : wb work nx ≤ often := hbd
      obtain ⟨N', e1, e2, e3⟩ := wait_ok hn hn4 hb (by omega) hN (fun ha => h.open_ hth hiw h1 ha) hS
      have hov : (vstep (waitCode (n : Int)) th [(sumF (arrW work) s.ths : Int)]).1.over = true := hov
      refine ⟨?_, e2⟩
      show BarI n often work (s.ths.set t ⟨nx, none⟩) (vstep (waitCode (n : Int)) th [(sumF (arrW work) s.ths : Int)]).2
      rcases e3 with ⟨e4, _⟩ | ⟨_, e4, e5, e6⟩
      · rw [e4] at hov; cases hov
      · have ep : arrW work ⟨nx, some (0, th)⟩ = wb work nx := by simp [arrW, e6]
        have hs := sumF_set (arrW work) s.ths t _ ⟨nx, none⟩ hth
        rw [ep, ea] at hs
        have := h.put (q := ⟨nx, none⟩) hth (by rw [ep, ea]; exact Nat.le_refl _) (fun j r hj => by rw [ef]; exact h.full e5 j r hj) (hq _) hbd
        rw [show sumF (arrW work) (s.ths.set t ⟨nx, none⟩) = sumF (arrW work) s.ths by omega] at this
        rw [e1, e4]
        exact this
    · rw [barr_code1 ht] at hov ⊢
      obtain ⟨e1, e2⟩ := lops_step (work * (t + 1)) th [(sumF (arrW work) s.ths : Int)] hE
      refine ⟨?_, e2⟩
      rw [e1]
      have hc : ∀ th' : Th, arrW work ⟨nx, some (1 + t, th')⟩ = wb work nx ∧ finW work ⟨nx, some (1 + t, th')⟩ = wb work nx := fun th' => by
        simp only [arrW, finW]; rw [if_neg (by omega), if_neg (by omega)]; exact ⟨rfl, rfl⟩
      have hs := sumF_set (arrW work) s.ths t _ ⟨nx, none⟩ hth
      rw [(hc _).1, ea] at hs
      have := h.put (q := ⟨nx, none⟩) hth (by rw [(hc _).1, ea]; exact Nat.le_refl _) (fun j r hj => by rw [ef, ← (hc th).2]; exact h.K j t r _ hj hth) (hq _) hbd
      rw [show sumF (arrW work) (s.ths.set t ⟨nx, none⟩) = sumF (arrW work) s.ths by omega] at this
      exact this
theorem sumF_zero {α : Type} (f : α → Nat) {x : α} (h : f x = 0) : ∀ n, sumF f (List.replicate n x) = 0
  | 0 => rfl
  | n + 1 => by rw [List.replicate_succ, sumF, h, sumF_zero f h n]
theorem barr_play {n often work : Nat} (hn : 1 ≤ n) (hn4 : n ≤ 4) (ho : often ≤ 10) (l : List Nat) : BarI n often work (play (barrMach n often work) l).ths (play (barrMach n often work) l).words ∧ NoErr (play (barrMach n often work) l).evs := by
  have e0 : (pinit (barrMach n often work)).ths = List.replicate n ⟨0, none⟩ := by simp [pinit, barrMach]
  have z0 : arrW work ⟨0, none⟩ = 0 := by simp [arrW, wb]
  refine (barr_keeps (often := often) (work := work) hn hn4 ho l).play ?_
  rw [e0]
  have hat : ∀ (i : Nat) (p : PT), (List.replicate n (⟨0, none⟩ : PT))[i]? = some p → p = ⟨0, none⟩ := fun i p h => by
    rw [List.getElem?_replicate] at h
    split at h
    · injection h with h; exact h.symm
    · cases h
  refine ⟨by simp, ?_, fun i j p q hi hj => ?_, fun i nx ci t hi => ?_, fun i p hi => ?_⟩
  · rw [sumF_zero _ z0]; rfl
  · rw [hat j q hj]; simp [finW, wb]
  · have := hat i _ hi; cases this
  · rw [hat i p hi]; simp [wb]
theorem nodup_len {α : Type} [BEq α] [LawfulBEq α] : ∀ (l1 l2 : List α), l1.Nodup → (∀ x ∈ l1, x ∈ l2) → l1.length ≤ l2.length
  | [], l2, _, _ => Nat.zero_le _
  | x :: l1, l2, hn, h => by
    rw [List.nodup_cons] at hn
    have hx := h x List.mem_cons_self
    have ih := nodup_len l1 (l2.erase x) hn.2 fun y hy => (List.mem_erase_of_ne (fun e => hn.1 (by rw [← e]; exact hy))).2 (h y (List.mem_cons_of_mem _ hy))
    rw [List.length_erase_of_mem hx] at ih
    have : 0 < l2.length := List.length_pos_of_mem hx
    rw [List.length_cons]; omega
/-- BarrTogether, plain -/
theorem barr_together {n often work : Nat} (hn : 1 ≤ n) (hn4 : n ≤ 4) (ho : often ≤ 10) (l : List Nat) {k e : Nat} {d : Dg} (hk : (doings (play (barrMach n often work) l).evs)[k]? = some d) (he : d.e = some e) (hw : iw work d.c = true) :
    ((doings (play (barrMach n often work) l).evs).filter (fun x => x.c == d.c && decide (x.b ≤ e))).length = n := by
  have D1 := play_di (barrMach n often work) l
  have hel := ((D1.time k d hk).2 e he).2
  have hT : e + 1 ≤ l.length := hel
  obtain ⟨hI, _⟩ := barr_play (often := often) (work := work) hn hn4 ho (l.take (e + 1))
  have D0 := play_di (barrMach n often work) (l.take (e + 1))
  have hP := play_pre (barrMach n often work) l (e + 1) hT
  have hk0 := hP.ended hk he (Nat.lt_succ_self e)
  obtain ⟨p, hp, hlt, hiff⟩ := D0.lt k d hk0
  have hf : wb work (d.c + 1) ≤ finW work p := by
    have mono : ∀ a b, a ≤ b → wb work a ≤ wb work b := by intro a b h; unfold wb; split <;> omega
    have hne : ¬ (p.cur.isSome = true ∧ d.c + 1 = p.next) := fun h => by have := hiff.2 h; rw [he] at this; cases this
    obtain ⟨nx, cur⟩ := p
    cases cur with
    | none => exact mono _ _ hlt
    | some v =>
      obtain ⟨ci, t⟩ := v
      have h2 : d.c + 1 ≠ nx := fun h => hne ⟨rfl, h⟩
      have h3 : d.c + 1 < nx := by have : d.c < nx := hlt; omega
      obtain ⟨h4, h5⟩ := hI.th d.t nx ci t hp
      obtain ⟨m, rfl⟩ : ∃ m, nx = m + 1 := ⟨nx - 1, by omega⟩
      have h6 := mono (d.c + 1) m (by omega)
      have h7 := wb_succ work m
      rw [Nat.add_sub_cancel] at h5
      rcases h5 with ⟨rfl, h5, _⟩ | ⟨rfl, _, h5, _⟩
      · rw [h5] at h7; simp only [b2n, if_true] at h7
        simp only [finW, if_true]; omega
      · rw [h5] at h7; simp only [b2n, Bool.false_eq_true, if_false] at h7
        simp only [finW]; rw [if_neg (by omega)]; omega
  rw [← List.length_map (f := fun x : Dg => x.t)]
  have hnd := nodup_at (P := fun x : Dg => x.c == d.c && decide (x.b ≤ e)) (f := fun x : Dg => x.t) (doings (play (barrMach n often work) l).evs) fun i j a b ha hb pa pb e => by
    simp only [Bool.and_eq_true, beq_iff_eq] at pa pb
    exact D1.uniq i j a b ha hb e (by rw [pa.1, pb.1])
  have hthl : (play (barrMach n often work) l).ths.length = n := (barr_play (often := often) (work := work) hn hn4 ho l).1.len
  refine Nat.le_antisymm ?_ ?_
  · have := nodup_len _ (List.range n) hnd fun t ht => by
      obtain ⟨x, hx, rfl⟩ := List.mem_map.1 ht
      obtain ⟨hx1, _⟩ := List.mem_filter.1 hx
      obtain ⟨j, hj⟩ := List.getElem?_of_mem hx1
      obtain ⟨q, hq, _⟩ := D1.lt j x hj
      have := (List.getElem?_eq_some_iff.1 hq).1
      rw [hthl] at this
      exact List.mem_range.2 this
    rw [List.length_range] at this
    exact this
  · have := nodup_len (List.range n) (((doings (play (barrMach n often work) l).evs).filter (fun x => x.c == d.c && decide (x.b ≤ e))).map fun x : Dg => x.t) List.nodup_range fun t ht => by
      have ht := List.mem_range.1 ht
      have hl0 : t < (play (barrMach n often work) (l.take (e + 1))).ths.length := by rw [hI.len]; exact ht
      obtain ⟨q, hq⟩ : ∃ q, (play (barrMach n often work) (l.take (e + 1))).ths[t]? = some q := ⟨_, List.getElem?_eq_getElem hl0⟩
      have h1 := hI.K t d.t q p hq hp
      have h2 := (fin_arr work q).2.2
      have h3 : d.c < q.next := by
        rcases Nat.lt_or_ge d.c q.next with h | h
        · exact h
        · have h4 : wb work q.next ≤ wb work d.c := by unfold wb; split <;> omega
          have h5 := wb_succ work d.c
          rw [hw] at h5; simp only [b2n, if_true] at h5
          omega
      obtain ⟨j, x, hx, hxt, hxc⟩ := D0.ths t q hq d.c h3
      have hb := (D0.time j x hx).1
      rw [List.length_take] at hb
      obtain ⟨x', hx', b1, b2, b3⟩ := hP.back hx
      refine List.mem_map.2 ⟨x', List.mem_filter.2 ⟨List.mem_of_getElem? hx', ?_⟩, by rw [← b2, hxt]⟩
      simp only [Bool.and_eq_true, beq_iff_eq, decide_eq_true_eq]
      exact ⟨by rw [← b3, hxc], by omega⟩
    rw [List.length_range] at this
    exact this
end Go.Proofs.YtnoinojhocicjaaDoor
