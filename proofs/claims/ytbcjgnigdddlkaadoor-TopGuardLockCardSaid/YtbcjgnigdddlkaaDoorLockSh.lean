/-
  One step of a thread within lock.Enter: plain. Written by gen_locksh.py.
-/
import Derived.Test.YtbcjgnigdddlkaaDoorLockAbs
import Derived.Test.YtbcjgnigdddlkaaDoorWStep
import Derived.Test.YtbcjgnigdddlkaaDoorCodesL
namespace Go.Proofs.YtbcjgnigdddlkaaDoor
open Go.RowKit
set_option linter.unusedVariables false

theorem le_0 {n : Nat} (h1 : 1 ≤ n) (h4 : n ≤ 4) : (lenterCode n)[0]? = some ⟨1, 1, 1, 0, 0⟩ := by
  rcases (show n = 1 ∨ n = 2 ∨ n = 3 ∨ n = 4 by omega) with rfl | rfl | rfl | rfl <;> rfl
theorem le_1 {n : Nat} (h1 : 1 ≤ n) (h4 : n ≤ 4) : (lenterCode n)[1]? = some ⟨14, 1, 0, 0, 0⟩ := by
  rcases (show n = 1 ∨ n = 2 ∨ n = 3 ∨ n = 4 by omega) with rfl | rfl | rfl | rfl <;> rfl
theorem le_a0 {n j : Nat} (h1 : 1 ≤ n) (h4 : n ≤ 4) (hj : j < n) : (lenterCode n)[2 + 4 * j]? = some ⟨13, 2, 3, ((n + j : Nat) : Int), 0⟩ := by
  rcases (show n = 1 ∨ n = 2 ∨ n = 3 ∨ n = 4 by omega) with rfl | rfl | rfl | rfl
  · obtain rfl : j = 0 := by omega
    rfl
  · rcases (show j = 0 ∨ j = 1 by omega) with rfl | rfl <;> rfl
  · rcases (show j = 0 ∨ j = 1 ∨ j = 2 by omega) with rfl | rfl | rfl <;> rfl
  · rcases (show j = 0 ∨ j = 1 ∨ j = 2 ∨ j = 3 by omega) with rfl | rfl | rfl | rfl <;> rfl
theorem le_a1 {n j : Nat} (h1 : 1 ≤ n) (h4 : n ≤ 4) (hj : j < n) : (lenterCode n)[3 + 4 * j]? = some ⟨9, 4, 5, 2, 0⟩ := by
  rcases (show n = 1 ∨ n = 2 ∨ n = 3 ∨ n = 4 by omega) with rfl | rfl | rfl | rfl
  · obtain rfl : j = 0 := by omega
    rfl
  · rcases (show j = 0 ∨ j = 1 by omega) with rfl | rfl <;> rfl
  · rcases (show j = 0 ∨ j = 1 ∨ j = 2 by omega) with rfl | rfl | rfl <;> rfl
  · rcases (show j = 0 ∨ j = 1 ∨ j = 2 ∨ j = 3 by omega) with rfl | rfl | rfl | rfl <;> rfl
theorem le_a2 {n j : Nat} (h1 : 1 ≤ n) (h4 : n ≤ 4) (hj : j < n) : (lenterCode n)[4 + 4 * j]? = some ⟨12, 4, ((6 + 4 * j : Nat) : Int), 0, 0⟩ := by
  rcases (show n = 1 ∨ n = 2 ∨ n = 3 ∨ n = 4 by omega) with rfl | rfl | rfl | rfl
  · obtain rfl : j = 0 := by omega
    rfl
  · rcases (show j = 0 ∨ j = 1 by omega) with rfl | rfl <;> rfl
  · rcases (show j = 0 ∨ j = 1 ∨ j = 2 by omega) with rfl | rfl | rfl <;> rfl
  · rcases (show j = 0 ∨ j = 1 ∨ j = 2 ∨ j = 3 by omega) with rfl | rfl | rfl | rfl <;> rfl
theorem le_a3 {n j : Nat} (h1 : 1 ≤ n) (h4 : n ≤ 4) (hj : j < n) : (lenterCode n)[5 + 4 * j]? = some ⟨2, 5, 2, 0, 0⟩ := by
  rcases (show n = 1 ∨ n = 2 ∨ n = 3 ∨ n = 4 by omega) with rfl | rfl | rfl | rfl
  · obtain rfl : j = 0 := by omega
    rfl
  · rcases (show j = 0 ∨ j = 1 by omega) with rfl | rfl <;> rfl
  · rcases (show j = 0 ∨ j = 1 ∨ j = 2 by omega) with rfl | rfl | rfl <;> rfl
  · rcases (show j = 0 ∨ j = 1 ∨ j = 2 ∨ j = 3 by omega) with rfl | rfl | rfl | rfl <;> rfl
theorem le_m0 {n : Nat} (h1 : 1 ≤ n) (h4 : n ≤ 4) : (lenterCode n)[2 + 4 * n]? = some ⟨3, 5, 5, 1, 0⟩ := by
  rcases (show n = 1 ∨ n = 2 ∨ n = 3 ∨ n = 4 by omega) with rfl | rfl | rfl | rfl <;> rfl
theorem le_m1 {n : Nat} (h1 : 1 ≤ n) (h4 : n ≤ 4) : (lenterCode n)[3 + 4 * n]? = some ⟨14, 5, 0, ((n : Nat) : Int), 0⟩ := by
  rcases (show n = 1 ∨ n = 2 ∨ n = 3 ∨ n = 4 by omega) with rfl | rfl | rfl | rfl <;> rfl
theorem le_m2 {n : Nat} (h1 : 1 ≤ n) (h4 : n ≤ 4) : (lenterCode n)[4 + 4 * n]? = some ⟨14, 3, 0, 0, 0⟩ := by
  rcases (show n = 1 ∨ n = 2 ∨ n = 3 ∨ n = 4 by omega) with rfl | rfl | rfl | rfl <;> rfl
theorem le_b0 {n j : Nat} (h1 : 1 ≤ n) (h4 : n ≤ 4) (hj : j < n) : (lenterCode n)[5 + 4 * n + 13 * j]? = some ⟨1, 6, (j : Int), 0, 0⟩ := by
  rcases (show n = 1 ∨ n = 2 ∨ n = 3 ∨ n = 4 by omega) with rfl | rfl | rfl | rfl
  · obtain rfl : j = 0 := by omega
    rfl
  · rcases (show j = 0 ∨ j = 1 by omega) with rfl | rfl <;> rfl
  · rcases (show j = 0 ∨ j = 1 ∨ j = 2 by omega) with rfl | rfl | rfl <;> rfl
  · rcases (show j = 0 ∨ j = 1 ∨ j = 2 ∨ j = 3 by omega) with rfl | rfl | rfl | rfl <;> rfl
theorem le_b1 {n j : Nat} (h1 : 1 ≤ n) (h4 : n ≤ 4) (hj : j < n) : (lenterCode n)[6 + 4 * n + 13 * j]? = some ⟨8, 7, 6, 0, 0⟩ := by
  rcases (show n = 1 ∨ n = 2 ∨ n = 3 ∨ n = 4 by omega) with rfl | rfl | rfl | rfl
  · obtain rfl : j = 0 := by omega
    rfl
  · rcases (show j = 0 ∨ j = 1 by omega) with rfl | rfl <;> rfl
  · rcases (show j = 0 ∨ j = 1 ∨ j = 2 by omega) with rfl | rfl | rfl <;> rfl
  · rcases (show j = 0 ∨ j = 1 ∨ j = 2 ∨ j = 3 by omega) with rfl | rfl | rfl | rfl <;> rfl
theorem le_b2 {n j : Nat} (h1 : 1 ≤ n) (h4 : n ≤ 4) (hj : j < n) : (lenterCode n)[7 + 4 * n + 13 * j]? = some ⟨11, 7, ((5 + 4 * n + 13 * (j + 1) : Nat) : Int), 0, 0⟩ := by
  rcases (show n = 1 ∨ n = 2 ∨ n = 3 ∨ n = 4 by omega) with rfl | rfl | rfl | rfl
  · obtain rfl : j = 0 := by omega
    rfl
  · rcases (show j = 0 ∨ j = 1 by omega) with rfl | rfl <;> rfl
  · rcases (show j = 0 ∨ j = 1 ∨ j = 2 by omega) with rfl | rfl | rfl <;> rfl
  · rcases (show j = 0 ∨ j = 1 ∨ j = 2 ∨ j = 3 by omega) with rfl | rfl | rfl | rfl <;> rfl
theorem le_b3 {n j : Nat} (h1 : 1 ≤ n) (h4 : n ≤ 4) (hj : j < n) : (lenterCode n)[8 + 4 * n + 13 * j]? = some ⟨13, 2, 6, 0, 0⟩ := by
  rcases (show n = 1 ∨ n = 2 ∨ n = 3 ∨ n = 4 by omega) with rfl | rfl | rfl | rfl
  · obtain rfl : j = 0 := by omega
    rfl
  · rcases (show j = 0 ∨ j = 1 by omega) with rfl | rfl <;> rfl
  · rcases (show j = 0 ∨ j = 1 ∨ j = 2 by omega) with rfl | rfl | rfl <;> rfl
  · rcases (show j = 0 ∨ j = 1 ∨ j = 2 ∨ j = 3 by omega) with rfl | rfl | rfl | rfl <;> rfl
theorem le_b4 {n j : Nat} (h1 : 1 ≤ n) (h4 : n ≤ 4) (hj : j < n) : (lenterCode n)[9 + 4 * n + 13 * j]? = some ⟨11, 2, ((8 + 4 * n + 13 * j : Nat) : Int), 0, 0⟩ := by
  rcases (show n = 1 ∨ n = 2 ∨ n = 3 ∨ n = 4 by omega) with rfl | rfl | rfl | rfl
  · obtain rfl : j = 0 := by omega
    rfl
  · rcases (show j = 0 ∨ j = 1 by omega) with rfl | rfl <;> rfl
  · rcases (show j = 0 ∨ j = 1 ∨ j = 2 by omega) with rfl | rfl | rfl <;> rfl
  · rcases (show j = 0 ∨ j = 1 ∨ j = 2 ∨ j = 3 by omega) with rfl | rfl | rfl | rfl <;> rfl
theorem le_b5 {n j : Nat} (h1 : 1 ≤ n) (h4 : n ≤ 4) (hj : j < n) : (lenterCode n)[10 + 4 * n + 13 * j]? = some ⟨13, 2, 6, ((n : Nat) : Int), 0⟩ := by
  rcases (show n = 1 ∨ n = 2 ∨ n = 3 ∨ n = 4 by omega) with rfl | rfl | rfl | rfl
  · obtain rfl : j = 0 := by omega
    rfl
  · rcases (show j = 0 ∨ j = 1 by omega) with rfl | rfl <;> rfl
  · rcases (show j = 0 ∨ j = 1 ∨ j = 2 by omega) with rfl | rfl | rfl <;> rfl
  · rcases (show j = 0 ∨ j = 1 ∨ j = 2 ∨ j = 3 by omega) with rfl | rfl | rfl | rfl <;> rfl
theorem le_b6 {n j : Nat} (h1 : 1 ≤ n) (h4 : n ≤ 4) (hj : j < n) : (lenterCode n)[11 + 4 * n + 13 * j]? = some ⟨12, 2, ((5 + 4 * n + 13 * (j + 1) : Nat) : Int), 0, 0⟩ := by
  rcases (show n = 1 ∨ n = 2 ∨ n = 3 ∨ n = 4 by omega) with rfl | rfl | rfl | rfl
  · obtain rfl : j = 0 := by omega
    rfl
  · rcases (show j = 0 ∨ j = 1 by omega) with rfl | rfl <;> rfl
  · rcases (show j = 0 ∨ j = 1 ∨ j = 2 by omega) with rfl | rfl | rfl <;> rfl
  · rcases (show j = 0 ∨ j = 1 ∨ j = 2 ∨ j = 3 by omega) with rfl | rfl | rfl | rfl <;> rfl
theorem le_b7 {n j : Nat} (h1 : 1 ≤ n) (h4 : n ≤ 4) (hj : j < n) : (lenterCode n)[12 + 4 * n + 13 * j]? = some ⟨9, 8, 5, 2, 0⟩ := by
  rcases (show n = 1 ∨ n = 2 ∨ n = 3 ∨ n = 4 by omega) with rfl | rfl | rfl | rfl
  · obtain rfl : j = 0 := by omega
    rfl
  · rcases (show j = 0 ∨ j = 1 by omega) with rfl | rfl <;> rfl
  · rcases (show j = 0 ∨ j = 1 ∨ j = 2 by omega) with rfl | rfl | rfl <;> rfl
  · rcases (show j = 0 ∨ j = 1 ∨ j = 2 ∨ j = 3 by omega) with rfl | rfl | rfl | rfl <;> rfl
theorem le_b8 {n j : Nat} (h1 : 1 ≤ n) (h4 : n ≤ 4) (hj : j < n) : (lenterCode n)[13 + 4 * n + 13 * j]? = some ⟨11, 8, ((5 + 4 * n + 13 * (j + 1) : Nat) : Int), 0, 0⟩ := by
  rcases (show n = 1 ∨ n = 2 ∨ n = 3 ∨ n = 4 by omega) with rfl | rfl | rfl | rfl
  · obtain rfl : j = 0 := by omega
    rfl
  · rcases (show j = 0 ∨ j = 1 by omega) with rfl | rfl <;> rfl
  · rcases (show j = 0 ∨ j = 1 ∨ j = 2 by omega) with rfl | rfl | rfl <;> rfl
  · rcases (show j = 0 ∨ j = 1 ∨ j = 2 ∨ j = 3 by omega) with rfl | rfl | rfl | rfl <;> rfl
theorem le_b9 {n j : Nat} (h1 : 1 ≤ n) (h4 : n ≤ 4) (hj : j < n) : (lenterCode n)[14 + 4 * n + 13 * j]? = some ⟨8, 7, 5, 2, 0⟩ := by
  rcases (show n = 1 ∨ n = 2 ∨ n = 3 ∨ n = 4 by omega) with rfl | rfl | rfl | rfl
  · obtain rfl : j = 0 := by omega
    rfl
  · rcases (show j = 0 ∨ j = 1 by omega) with rfl | rfl <;> rfl
  · rcases (show j = 0 ∨ j = 1 ∨ j = 2 by omega) with rfl | rfl | rfl <;> rfl
  · rcases (show j = 0 ∨ j = 1 ∨ j = 2 ∨ j = 3 by omega) with rfl | rfl | rfl | rfl <;> rfl
theorem le_b10 {n j : Nat} (h1 : 1 ≤ n) (h4 : n ≤ 4) (hj : j < n) : (lenterCode n)[15 + 4 * n + 13 * j]? = some ⟨12, 7, ((10 + 4 * n + 13 * j : Nat) : Int), 0, 0⟩ := by
  rcases (show n = 1 ∨ n = 2 ∨ n = 3 ∨ n = 4 by omega) with rfl | rfl | rfl | rfl
  · obtain rfl : j = 0 := by omega
    rfl
  · rcases (show j = 0 ∨ j = 1 by omega) with rfl | rfl <;> rfl
  · rcases (show j = 0 ∨ j = 1 ∨ j = 2 by omega) with rfl | rfl | rfl <;> rfl
  · rcases (show j = 0 ∨ j = 1 ∨ j = 2 ∨ j = 3 by omega) with rfl | rfl | rfl | rfl <;> rfl
theorem le_b11 {n j : Nat} (h1 : 1 ≤ n) (h4 : n ≤ 4) (hj : j < n) : (lenterCode n)[16 + 4 * n + 13 * j]? = some ⟨9, 8, 6, 0, 0⟩ := by
  rcases (show n = 1 ∨ n = 2 ∨ n = 3 ∨ n = 4 by omega) with rfl | rfl | rfl | rfl
  · obtain rfl : j = 0 := by omega
    rfl
  · rcases (show j = 0 ∨ j = 1 by omega) with rfl | rfl <;> rfl
  · rcases (show j = 0 ∨ j = 1 ∨ j = 2 by omega) with rfl | rfl | rfl <;> rfl
  · rcases (show j = 0 ∨ j = 1 ∨ j = 2 ∨ j = 3 by omega) with rfl | rfl | rfl | rfl <;> rfl
theorem le_b12 {n j : Nat} (h1 : 1 ≤ n) (h4 : n ≤ 4) (hj : j < n) : (lenterCode n)[17 + 4 * n + 13 * j]? = some ⟨11, 8, ((10 + 4 * n + 13 * j : Nat) : Int), 0, 0⟩ := by
  rcases (show n = 1 ∨ n = 2 ∨ n = 3 ∨ n = 4 by omega) with rfl | rfl | rfl | rfl
  · obtain rfl : j = 0 := by omega
    rfl
  · rcases (show j = 0 ∨ j = 1 by omega) with rfl | rfl <;> rfl
  · rcases (show j = 0 ∨ j = 1 ∨ j = 2 by omega) with rfl | rfl | rfl <;> rfl
  · rcases (show j = 0 ∨ j = 1 ∨ j = 2 ∨ j = 3 by omega) with rfl | rfl | rfl | rfl <;> rfl
def lkT (p : Nat) (me o mo mi j s l : Int) : Th := ⟨me :: 1 :: o :: 0 :: mo :: mi :: j :: s :: l :: List.replicate 15 0, p, [], 0, false⟩
def lstw (m v t j : Nat) : LA := if good m v t j then .pas j m else .saw j m
/-- where a thread t may be within Enter -/
inductive ESh (n t : Nat) : Th → LA → Prop
  | e0 : ESh n t ⟨(t : Int) :: List.replicate 23 0, 0, [], 0, false⟩ .idle
  | e1 : ESh n t (lkT 1 t 0 0 0 0 0 0) .idle
  | d0 (k x : Nat) (o mo : Int) (hk : k ≤ n) : ESh n t (lkT (2 + 4 * k) t o mo x 0 0 0) (.door k x)
  | d1 (k x v : Nat) (mo : Int) (hk : k < n) : ESh n t (lkT (3 + 4 * k) t v mo x 0 0 0) (.doorL k x v)
  | d2 (k x v : Nat) (hk : k < n) : ESh n t (lkT (4 + 4 * k) t v (vflag (decide ((x : Int) < (v : Int)))) x 0 0 0) (.doorL k x v)
  | d3 (k x v : Nat) (mo : Int) (hk : k < n) (hlt : x < v) : ESh n t (lkT (5 + 4 * k) t v mo x 0 0 0) (.doorL k x v)
  | m1 (x : Nat) (o mo : Int) : ESh n t (lkT (3 + 4 * n) t o mo ((x + 1 : Nat) : Int) 0 0 0) (.door n x)
  | m2 (m : Nat) (o mo : Int) : ESh n t (lkT (4 + 4 * n) t o mo m 0 0 0) (.numd m)
  | w0 (j m : Nat) (o mo jj s l : Int) (hj : j < n) : ESh n t (lkT (5 + 4 * n + 13 * j) t o mo m jj s l) (.wait j m)
  | w1 (j m : Nat) (o mo s l : Int) (hj : j < n) : ESh n t (lkT (6 + 4 * n + 13 * j) t o mo m j s l) (.wait j m)
  | w2 (j m : Nat) (o mo l : Int) (hj : j < n) : ESh n t (lkT (7 + 4 * n + 13 * j) t o mo m j (vflag (decide ((j : Int) = (t : Int)))) l) (.wait j m)
  | w3 (j m : Nat) (o mo s l : Int) (hj : j < n) (hne : j ≠ t) : ESh n t (lkT (8 + 4 * n + 13 * j) t o mo m j s l) (.wait j m)
  | w4a (j m : Nat) (mo s l : Int) (hj : j < n) (hne : j ≠ t) : ESh n t (lkT (9 + 4 * n + 13 * j) t 0 mo m j s l) (.saw j m)
  | w4b (j m : Nat) (o mo s l : Int) (hj : j < n) (hne : j ≠ t) (ho : o ≠ 0) : ESh n t (lkT (9 + 4 * n + 13 * j) t o mo m j s l) (.wait j m)
  | s5 (j m : Nat) (o mo s l : Int) (hj : j < n) (hne : j ≠ t) : ESh n t (lkT (10 + 4 * n + 13 * j) t o mo m j s l) (.saw j m)
  | s6 (j m v : Nat) (mo s l : Int) (hj : j < n) (hne : j ≠ t) : ESh n t (lkT (11 + 4 * n + 13 * j) t v mo m j s l) (lstw m v t j)
  | s7 (j m v : Nat) (mo s l : Int) (hj : j < n) (hne : j ≠ t) (hv : v ≠ 0) : ESh n t (lkT (12 + 4 * n + 13 * j) t v mo m j s l) (lstw m v t j)
  | s8 (j m v : Nat) (mo s : Int) (hj : j < n) (hne : j ≠ t) (hv : v ≠ 0) : ESh n t (lkT (13 + 4 * n + 13 * j) t v mo m j s (vflag (decide ((m : Int) < (v : Int))))) (lstw m v t j)
  | s9 (j m v : Nat) (mo s l : Int) (hj : j < n) (hne : j ≠ t) (hv : v ≠ 0) (hlt : ¬ m < v) : ESh n t (lkT (14 + 4 * n + 13 * j) t v mo m j s l) (lstw m v t j)
  | s10 (j m v : Nat) (mo l : Int) (hj : j < n) (hne : j ≠ t) (hv : v ≠ 0) (hlt : ¬ m < v) : ESh n t (lkT (15 + 4 * n + 13 * j) t v mo m j (vflag (decide ((m : Int) = (v : Int)))) l) (lstw m v t j)
  | s11 (j m : Nat) (mo s l : Int) (hj : j < n) (hne : j ≠ t) (hm : m ≠ 0) : ESh n t (lkT (16 + 4 * n + 13 * j) t m mo m j s l) (lstw m m t j)
  | s12 (j m : Nat) (mo s : Int) (hj : j < n) (hne : j ≠ t) (hm : m ≠ 0) : ESh n t (lkT (17 + 4 * n + 13 * j) t m mo m j s (vflag (decide ((j : Int) < (t : Int))))) (lstw m m t j)
/-- the words: who takes a number, and the numbers -/
structure WM (n : Nat) (A : Nat → LA) (ws : List Int) : Prop where
  len : 2 * n ≤ ws.length
  chs : ∀ t, t < n → vget ws (t : Int) = (lchs (A t) : Int)
  num : ∀ t, t < n → vget ws ((n + t : Nat) : Int) = (lnum (A t) : Int)
theorem vget_vset_neL (ws : List Int) {i j : Int} (x : Int) (h : i.toNat ≠ j.toNat) : vget (vset ws i x) j = vget ws j := by
  unfold vget; exact vset_far ws i x j.toNat h
theorem vget_vset_eqL (ws : List Int) {i : Int} (x : Int) (h0 : 0 ≤ i) (h : i < (ws.length : Int)) : vget (vset ws i x) i = x := by
  unfold vget vset
  rw [List.getD_eq_getElem?_getD, List.getElem?_set_self (by omega)]; rfl
theorem WM.same {n t : Nat} {A : Nat → LA} {ws : List Int} {a' : LA} (h : WM n A ws) (h1 : lchs a' = lchs (A t)) (h2 : lnum a' = lnum (A t)) : WM n (upd A t a') ws := by
  refine ⟨h.len, fun u hu => ?_, fun u hu => ?_⟩
  · by_cases e : u = t
    · subst e; rw [upd_same, h1]; exact h.chs u hu
    · rw [upd_ne _ _ _ _ e]; exact h.chs u hu
  · by_cases e : u = t
    · subst e; rw [upd_same, h2]; exact h.num u hu
    · rw [upd_ne _ _ _ _ e]; exact h.num u hu
theorem WM.setc {n t : Nat} {A : Nat → LA} {ws : List Int} {a' : LA} (h : WM n A ws) (ht : t < n) (h2 : lnum a' = lnum (A t)) : WM n (upd A t a') (vset ws (t : Int) (lchs a' : Int)) := by
  have hl := h.len
  refine ⟨by rw [vset_len]; exact hl, fun u hu => ?_, fun u hu => ?_⟩
  · by_cases e : u = t
    · subst e; rw [upd_same, vget_vset_eqL _ _ (by omega) (by omega)]
    · rw [upd_ne _ _ _ _ e, vget_vset_neL _ _ (by omega)]; exact h.chs u hu
  · rw [vget_vset_neL _ _ (by omega)]
    by_cases e : u = t
    · subst e; rw [upd_same, h2]; exact h.num u hu
    · rw [upd_ne _ _ _ _ e]; exact h.num u hu
theorem WM.setn {n t : Nat} {A : Nat → LA} {ws : List Int} {a' : LA} (h : WM n A ws) (ht : t < n) (h1 : lchs a' = lchs (A t)) : WM n (upd A t a') (vset ws ((n + t : Nat) : Int) (lnum a' : Int)) := by
  have hl := h.len
  refine ⟨by rw [vset_len]; exact hl, fun u hu => ?_, fun u hu => ?_⟩
  · rw [vget_vset_neL _ _ (by omega)]
    by_cases e : u = t
    · subst e; rw [upd_same, h1]; exact h.chs u hu
    · rw [upd_ne _ _ _ _ e]; exact h.chs u hu
  · by_cases e : u = t
    · subst e; rw [upd_same, vget_vset_eqL _ _ (by omega) (by omega)]
    · rw [upd_ne _ _ _ _ e, vget_vset_neL _ _ (by omega)]; exact h.num u hu
/-- what one step comes to -/
structure EStep (n t : Nat) (A : Nat → LA) (ws : List Int) (r : Th × List Int) (a' : LA) : Prop where
  tr : LTr n A t (A t) a'
  wm : WM n (upd A t a') r.2
  len : r.2.length = ws.length
  far : ∀ i : Nat, 2 * n ≤ i → vget r.2 (i : Int) = vget ws (i : Int)
  err : r.1.err = 0
  told : r.1.told = []
  sh : (r.1.over = false ∧ ESh n t r.1 a') ∨ (r.1.over = true ∧ ∃ m, a' = .wait n m)
theorem ls_pure {n : Nat} {op : Op5} {T T1 : Th} {ws ws1 : List Int} (h1 : 1 ≤ n) (h4 : n ≤ 4) (h0 : T.over = false) (hc : (lenterCode n)[T.pc]? = some op) (hv : vdo op { T with pc := T.pc + 1 } ws = (T1, ws1)) (hT1 : T1.over = false) (hpc : T1.pc < 5 + 17 * n) : vstep (lenterCode n) T ws = (T1, ws1) := by
  rw [wsp_over (lenterCode n) T ws op h0 hc, hv]
  have e : decide (T1.pc = (lenterCode n).length) = false := decide_eq_false (by rw [lenter_len h1 h4]; omega)
  rw [e, hT1]
  obtain ⟨a, b, c, d, f⟩ := T1
  simp only at hT1
  subst hT1
  rfl
theorem ls_end {n : Nat} {op : Op5} {T T1 : Th} {ws ws1 : List Int} (h1 : 1 ≤ n) (h4 : n ≤ 4) (h0 : T.over = false) (hc : (lenterCode n)[T.pc]? = some op) (hv : vdo op { T with pc := T.pc + 1 } ws = (T1, ws1)) (hpc : T1.pc = 5 + 17 * n) : vstep (lenterCode n) T ws = ({ T1 with over := true }, ws1) := by
  rw [wsp_over (lenterCode n) T ws op h0 hc, hv]
  have e : decide (T1.pc = (lenterCode n).length) = true := decide_eq_true (by rw [lenter_len h1 h4]; omega)
  rw [e, Bool.or_true]
theorem vdo_if0 {a b c d : Int} {T : Th} {ws : List Int} (h : vget T.regs a = 0) : vdo ⟨12, a, b, c, d⟩ T ws = ({ T with pc := b.toNat }, ws) := by
  show ((if vget T.regs a = 0 then { T with pc := b.toNat } else T), ws) = _
  rw [if_pos h]
theorem vdo_if1 {a b c d : Int} {T : Th} {ws : List Int} (h : vget T.regs a ≠ 0) : vdo ⟨12, a, b, c, d⟩ T ws = (T, ws) := by
  show ((if vget T.regs a = 0 then { T with pc := b.toNat } else T), ws) = _
  rw [if_neg h]
theorem vdo_wn1 {a b c d : Int} {T : Th} {ws : List Int} (h : vget T.regs a ≠ 0) : vdo ⟨11, a, b, c, d⟩ T ws = ({ T with pc := b.toNat }, ws) := by
  show ((if vget T.regs a ≠ 0 then { T with pc := b.toNat } else T), ws) = _
  rw [if_pos h]
theorem vdo_wn0 {a b c d : Int} {T : Th} {ws : List Int} (h : vget T.regs a = 0) : vdo ⟨11, a, b, c, d⟩ T ws = (T, ws) := by
  show ((if vget T.regs a ≠ 0 then { T with pc := b.toNat } else T), ws) = _
  rw [if_neg (fun e => e h)]
theorem ldec {n : Nat} (h1 : 1 ≤ n) (h4 : n ≤ 4) {p : Nat} (h : p < 5 + 17 * n) : decide (p = (lenterCode n).length) = false := decide_eq_false (by rw [lenter_len h1 h4]; omega)
theorem lwrap {x : Int} (h0 : 0 ≤ x) (h1 : x ≤ 1000000) : wrap64 x = x := by unfold wrap64; omega
theorem lstw_num (m v t j : Nat) : lnum (lstw m v t j) = m ∧ lchs (lstw m v t j) = 0 := by unfold lstw; split <;> exact ⟨rfl, rfl⟩
/-- registers alone change; the state is another one, or not -/
theorem EStep.pure {n t i : Nat} {A : Nat → LA} {ws : List Int} (h1 : 1 ≤ n) (h4 : n ≤ 4) (ht : t < n) (hi : i ≤ 6000) (hG : GInv n i A) (hW : WM n A ws) {T T1 : Th} {a a' : LA} (ha : A t = a) (htr : LTr n A t a a') (e : vstep (lenterCode n) T ws = (T1, ws)) (hc : lchs a' = lchs a) (hn : lnum a' = lnum a) (herr : T1.err = 0) (htold : T1.told = [])
    (hsh : (T1.over = false ∧ ESh n t T1 a') ∨ (T1.over = true ∧ ∃ m, a' = .wait n m)) : EStep n t A ws (vstep (lenterCode n) T ws) a' := by
  rw [e]
  subst ha
  exact ⟨htr, hW.same hc hn, rfl, fun _ _ => rfl, herr, htold, hsh⟩
section
variable {n t i : Nat} {A : Nat → LA} {ws : List Int} (h1 : 1 ≤ n) (h4 : n ≤ 4) (ht : t < n) (hi : i ≤ 6000) (hG : GInv n i A) (hW : WM n A ws)
include h1 h4 ht hi hG hW
/-- on to the next one -/
theorem EStep.next {T : Th} {op : Op5} {j m : Nat} {o mo mi jj s l : Int} {a : LA} (ha : A t = a) (htr : LTr n A t a (.wait (j + 1) m)) (hj : j < n) (hc : lchs a = 0) (hn : lnum a = m) (h0 : T.over = false) (hop : (lenterCode n)[T.pc]? = some op)
    (hv : vdo op { T with pc := T.pc + 1 } ws = (lkT (5 + 4 * n + 13 * (j + 1)) t o mo m jj s l, ws)) : EStep n t A ws (vstep (lenterCode n) T ws) (.wait (j + 1) m) := by
  by_cases hl : j + 1 < n
  · exact EStep.pure h1 h4 ht hi hG hW ha htr (ls_pure h1 h4 h0 hop hv rfl (by show 5 + 4 * n + 13 * (j + 1) < 5 + 17 * n; omega)) hc.symm hn.symm rfl rfl (.inl ⟨rfl, .w0 (j + 1) m o mo jj s l hl⟩)
  · obtain rfl : n = j + 1 := by omega
    refine EStep.pure h1 h4 ht hi hG hW ha htr (ls_end h1 h4 h0 hop hv (by show 5 + 4 * (j + 1) + 13 * (j + 1) = 5 + 17 * (j + 1); omega)) hc.symm hn.symm rfl rfl (.inr ⟨rfl, m, rfl⟩)
theorem enter_step {T : Th} (h : ESh n t T (A t)) : ∃ a', EStep n t A ws (vstep (lenterCode n) T ws) a' := by
  have hl := hW.len
  have hbt := hG.bd t ht
  generalize ha : A t = a at h
  have hb : LBd i a := by rw [← ha]; exact hbt
  have stay : ∀ {T1 : Th}, vstep (lenterCode n) T ws = (T1, ws) → T1.err = 0 → T1.told = [] → T1.over = false → ESh n t T1 a → ∃ a', EStep n t A ws (vstep (lenterCode n) T ws) a' := fun e e1 e2 e3 e4 =>
    ⟨a, EStep.pure h1 h4 ht hi hG hW ha (.stay a) e rfl rfl e1 e2 (.inl ⟨e3, e4⟩)⟩
  cases h with
  | e0 => exact stay (ls_pure h1 h4 rfl (le_0 h1 h4) (T1 := lkT 1 t 0 0 0 0 0 0) rfl rfl (by show 1 < 5 + 17 * n; omega)) rfl rfl rfl .e1
  | e1 =>
    have e := vs_store (code := lenterCode n) (t := lkT 1 t 0 0 0 0 0 0) (t' := lkT 2 t 0 0 0 0 0 0) (ws := ws) (a := 1) (b := 0) (c := 0) (d := 0) (ad := (t : Int)) rfl (le_1 h1 h4) (lwrap (x := (t : Int) + 0) (by omega) (by omega) |>.trans (by omega)) (by omega) (by omega) (by
      rw [show decide ((lkT 1 t 0 0 0 0 0 0).pc + 1 = (lenterCode n).length) = false from ldec h1 h4 (p := 2) (by omega)]; rfl)
    refine ⟨.door 0 0, ?_⟩
    rw [e]
    refine ⟨by rw [ha]; exact .t1, ?_, vset_len _ _ _, fun k hk => vget_vset_neL _ _ (by omega), rfl, rfl, .inl ⟨rfl, .d0 0 0 0 0 (Nat.zero_le _)⟩⟩
    exact hW.setc ht (a' := .door 0 0) (by rw [ha]; rfl)
  | d0 k x o mo hk =>
    by_cases hkn : k < n
    · have hn := hW.num k hkn
      have e := vs_load (code := lenterCode n) (t := lkT (2 + 4 * k) t o mo x 0 0 0) (t' := lkT (3 + 4 * k) t (lnum (A k) : Int) mo x 0 0 0) (ws := ws) (a := 2) (b := 3) (c := ((n + k : Nat) : Int)) (d := 0) (ad := ((n + k : Nat) : Int)) rfl (le_a0 h1 h4 hkn) (lwrap (x := 0 + ((n + k : Nat) : Int)) (by omega) (by omega) |>.trans (by omega)) (by omega) (by omega) (by
        rw [show decide ((lkT (2 + 4 * k) t o mo x 0 0 0).pc + 1 = (lenterCode n).length) = false from ldec h1 h4 (p := 2 + 4 * k + 1) (by omega), hn]
        show _ = Th.mk _ (2 + 4 * k + 1) _ _ _
        rw [show 2 + 4 * k + 1 = 3 + 4 * k by omega]; rfl)
      exact ⟨.doorL k x (lnum (A k)), EStep.pure h1 h4 ht hi hG hW ha (.t2 k x hkn) e rfl rfl rfl rfl (.inl ⟨rfl, .d1 k x _ mo hkn⟩)⟩
    · obtain rfl : k = n := by omega
      have hx : x ≤ i := hb
      refine stay (ls_pure h1 h4 rfl (le_m0 h1 h4) (T1 := lkT (3 + 4 * k) t o mo ((x + 1 : Nat) : Int) 0 0 0) ?_ rfl (by show 3 + 4 * k < 5 + 17 * k; omega)) rfl rfl rfl (.m1 x o mo)
      show (Th.mk (vset _ 5 (wrap64 ((x : Int) + 1))) (2 + 4 * k + 1) _ _ _, ws) = _
      rw [lwrap (by omega) (by omega), show (x : Int) + 1 = ((x + 1 : Nat) : Int) by omega, show 2 + 4 * k + 1 = 3 + 4 * k by omega]; rfl
  | d1 k x v mo hk =>
    refine stay (ls_pure h1 h4 rfl (le_a1 h1 h4 hk) (T1 := lkT (4 + 4 * k) t v (vflag (decide ((x : Int) < (v : Int)))) x 0 0 0) ?_ rfl (by show 4 + 4 * k < 5 + 17 * n; omega)) rfl rfl rfl (.d2 k x v hk)
    show (Th.mk _ (3 + 4 * k + 1) _ _ _, ws) = _
    rw [show 3 + 4 * k + 1 = 4 + 4 * k by omega]; rfl
  | d2 k x v hk =>
    by_cases hlt : x < v
    · have e1 : vflag (decide ((x : Int) < (v : Int))) = 1 := by rw [decide_eq_true (by omega)]; rfl
      rw [e1]
      rw [e1] at stay
      refine stay (ls_pure h1 h4 rfl (le_a2 h1 h4 hk) (T1 := lkT (5 + 4 * k) t v 1 x 0 0 0) ?_ rfl (by show 5 + 4 * k < 5 + 17 * n; omega)) rfl rfl rfl (.d3 k x v 1 hk hlt)
      rw [vdo_if1 (by show (1 : Int) ≠ 0; decide)]
      show (Th.mk _ (4 + 4 * k + 1) _ _ _, ws) = _
      rw [show 4 + 4 * k + 1 = 5 + 4 * k by omega]; rfl
    · have e1 : vflag (decide ((x : Int) < (v : Int))) = 0 := by rw [decide_eq_false (by omega)]; rfl
      rw [e1]
      have htr := LTr.t3 (n := n) (A := A) (t := t) k x v
      rw [show max x v = x by omega] at htr
      refine ⟨.door (k + 1) x, EStep.pure h1 h4 ht hi hG hW ha htr (ls_pure h1 h4 rfl (le_a2 h1 h4 hk) (T1 := lkT (2 + 4 * (k + 1)) t v 0 x 0 0 0) ?_ rfl (by show 2 + 4 * (k + 1) < 5 + 17 * n; omega)) rfl rfl rfl rfl (.inl ⟨rfl, .d0 (k + 1) x _ _ (by omega)⟩)⟩
      rw [vdo_if0 (by rfl)]
      show (Th.mk _ (6 + 4 * k) _ _ _, ws) = _
      rw [show 6 + 4 * k = 2 + 4 * (k + 1) by omega]; rfl
  | d3 k x v mo hk hlt =>
    have htr := LTr.t3 (n := n) (A := A) (t := t) k x v
    rw [show max x v = v by omega] at htr
    refine ⟨.door (k + 1) v, EStep.pure h1 h4 ht hi hG hW ha htr (ls_pure h1 h4 rfl (le_a3 h1 h4 hk) (T1 := lkT (2 + 4 * (k + 1)) t v mo v 0 0 0) ?_ rfl (by show 2 + 4 * (k + 1) < 5 + 17 * n; omega)) rfl rfl rfl rfl (.inl ⟨rfl, .d0 (k + 1) v _ _ (by omega)⟩)⟩
    show (Th.mk _ (5 + 4 * k + 1) _ _ _, ws) = _
    rw [show 5 + 4 * k + 1 = 2 + 4 * (k + 1) by omega]; rfl
  | m1 x o mo =>
    have e := vs_store (code := lenterCode n) (t := lkT (3 + 4 * n) t o mo ((x + 1 : Nat) : Int) 0 0 0) (t' := lkT (4 + 4 * n) t o mo ((x + 1 : Nat) : Int) 0 0 0) (ws := ws) (a := 5) (b := 0) (c := (n : Int)) (d := 0) (ad := ((n + t : Nat) : Int)) rfl (le_m1 h1 h4) (lwrap (x := (t : Int) + (n : Int)) (by omega) (by omega) |>.trans (by omega)) (by omega) (by omega) (by
      rw [show decide ((lkT (3 + 4 * n) t o mo ((x + 1 : Nat) : Int) 0 0 0).pc + 1 = (lenterCode n).length) = false from ldec h1 h4 (p := 3 + 4 * n + 1) (by omega)]
      show _ = Th.mk _ (3 + 4 * n + 1) _ _ _
      rw [show 3 + 4 * n + 1 = 4 + 4 * n by omega]; rfl)
    refine ⟨.numd (x + 1), ?_⟩
    rw [e]
    refine ⟨by rw [ha]; exact .t4 x, ?_, vset_len _ _ _, fun k hk => vget_vset_neL _ _ (by omega), rfl, rfl, .inl ⟨rfl, .m2 (x + 1) o mo⟩⟩
    exact hW.setn ht (a' := .numd (x + 1)) (by rw [ha]; rfl)
  | m2 m o mo =>
    have e := vs_store (code := lenterCode n) (t := lkT (4 + 4 * n) t o mo m 0 0 0) (t' := lkT (5 + 4 * n + 13 * 0) t o mo m 0 0 0) (ws := ws) (a := 3) (b := 0) (c := 0) (d := 0) (ad := (t : Int)) rfl (le_m2 h1 h4) (lwrap (x := (t : Int) + 0) (by omega) (by omega) |>.trans (by omega)) (by omega) (by omega) (by
      rw [show decide ((lkT (4 + 4 * n) t o mo m 0 0 0).pc + 1 = (lenterCode n).length) = false from ldec h1 h4 (p := 4 + 4 * n + 1) (by omega)]
      show _ = Th.mk _ (4 + 4 * n + 1) _ _ _
      rw [show 4 + 4 * n + 1 = 5 + 4 * n + 13 * 0 by omega]; rfl)
    refine ⟨.wait 0 m, ?_⟩
    rw [e]
    refine ⟨by rw [ha]; exact .t5 m, ?_, vset_len _ _ _, fun k hk => vget_vset_neL _ _ (by omega), rfl, rfl, .inl ⟨rfl, .w0 0 m o mo 0 0 0 h1⟩⟩
    exact hW.setc ht (a' := .wait 0 m) (by rw [ha]; rfl)
  | w0 j m o mo jj s l hj =>
    refine stay (ls_pure h1 h4 rfl (le_b0 h1 h4 hj) (T1 := lkT (6 + 4 * n + 13 * j) t o mo m j s l) ?_ rfl (by show 6 + 4 * n + 13 * j < 5 + 17 * n; omega)) rfl rfl rfl (.w1 j m o mo s l hj)
    show (Th.mk _ (5 + 4 * n + 13 * j + 1) _ _ _, ws) = _
    rw [show 5 + 4 * n + 13 * j + 1 = 6 + 4 * n + 13 * j by omega]; rfl
  | w1 j m o mo s l hj =>
    refine stay (ls_pure h1 h4 rfl (le_b1 h1 h4 hj) (T1 := lkT (7 + 4 * n + 13 * j) t o mo m j (vflag (decide ((j : Int) = (t : Int)))) l) ?_ rfl (by show 7 + 4 * n + 13 * j < 5 + 17 * n; omega)) rfl rfl rfl (.w2 j m o mo l hj)
    show (Th.mk _ (6 + 4 * n + 13 * j + 1) _ _ _, ws) = _
    rw [show 6 + 4 * n + 13 * j + 1 = 7 + 4 * n + 13 * j by omega]; rfl
  | w2 j m o mo l hj =>
    by_cases hjt : j = t
    · subst hjt
      have e1 : vflag (decide ((j : Int) = (j : Int))) = 1 := by rw [decide_eq_true rfl]; rfl
      rw [e1]
      refine ⟨.wait (j + 1) m, EStep.next h1 h4 ht hi hG hW ha (.t6a m) hj rfl rfl rfl (le_b2 h1 h4 hj) (o := o) (mo := mo) (mi := m) (jj := j) (s := 1) (l := l) ?_⟩
      rw [vdo_wn1 (by show (1 : Int) ≠ 0; decide)]; rfl
    · have e1 : vflag (decide ((j : Int) = (t : Int))) = 0 := by rw [decide_eq_false (by omega)]; rfl
      rw [e1]
      rw [e1] at stay
      refine stay (ls_pure h1 h4 rfl (le_b2 h1 h4 hj) (T1 := lkT (8 + 4 * n + 13 * j) t o mo m j 0 l) ?_ rfl (by show 8 + 4 * n + 13 * j < 5 + 17 * n; omega)) rfl rfl rfl (.w3 j m o mo 0 l hj hjt)
      rw [vdo_wn0 (by rfl)]
      show (Th.mk _ (7 + 4 * n + 13 * j + 1) _ _ _, ws) = _
      rw [show 7 + 4 * n + 13 * j + 1 = 8 + 4 * n + 13 * j by omega]; rfl
  | w3 j m o mo s l hj hne =>
    have hc := hW.chs j hj
    have e := vs_load (code := lenterCode n) (t := lkT (8 + 4 * n + 13 * j) t o mo m j s l) (t' := lkT (9 + 4 * n + 13 * j) t (lchs (A j) : Int) mo m j s l) (ws := ws) (a := 2) (b := 6) (c := 0) (d := 0) (ad := (j : Int)) rfl (le_b3 h1 h4 hj) (lwrap (x := (j : Int) + 0) (by omega) (by omega) |>.trans (by omega)) (by omega) (by omega) (by
      rw [show decide ((lkT (8 + 4 * n + 13 * j) t o mo m j s l).pc + 1 = (lenterCode n).length) = false from ldec h1 h4 (p := 8 + 4 * n + 13 * j + 1) (by omega), hc]
      show _ = Th.mk _ (8 + 4 * n + 13 * j + 1) _ _ _
      rw [show 8 + 4 * n + 13 * j + 1 = 9 + 4 * n + 13 * j by omega]; rfl)
    by_cases hz : lchs (A j) = 0
    · rw [hz] at e
      exact ⟨.saw j m, EStep.pure h1 h4 ht hi hG hW ha (.t6 j m hne hj hz) e rfl rfl rfl rfl (.inl ⟨rfl, .w4a j m mo s l hj hne⟩)⟩
    · exact stay e rfl rfl rfl (.w4b j m _ mo s l hj hne (by omega))
  | w4a j m mo s l hj hne =>
    refine stay (ls_pure h1 h4 rfl (le_b4 h1 h4 hj) (T1 := lkT (10 + 4 * n + 13 * j) t 0 mo m j s l) ?_ rfl (by show 10 + 4 * n + 13 * j < 5 + 17 * n; omega)) rfl rfl rfl (.s5 j m 0 mo s l hj hne)
    rw [vdo_wn0 (by rfl)]
    show (Th.mk _ (9 + 4 * n + 13 * j + 1) _ _ _, ws) = _
    rw [show 9 + 4 * n + 13 * j + 1 = 10 + 4 * n + 13 * j by omega]; rfl
  | w4b j m o mo s l hj hne ho =>
    refine stay (ls_pure h1 h4 rfl (le_b4 h1 h4 hj) (T1 := lkT (8 + 4 * n + 13 * j) t o mo m j s l) ?_ rfl (by show 8 + 4 * n + 13 * j < 5 + 17 * n; omega)) rfl rfl rfl (.w3 j m o mo s l hj hne)
    rw [vdo_wn1 (by exact ho)]; rfl
  | s5 j m o mo s l hj hne =>
    have hc := hW.num j hj
    have e := vs_load (code := lenterCode n) (t := lkT (10 + 4 * n + 13 * j) t o mo m j s l) (t' := lkT (11 + 4 * n + 13 * j) t (lnum (A j) : Int) mo m j s l) (ws := ws) (a := 2) (b := 6) (c := (n : Int)) (d := 0) (ad := ((n + j : Nat) : Int)) rfl (le_b5 h1 h4 hj) (lwrap (x := (j : Int) + (n : Int)) (by omega) (by omega) |>.trans (by omega)) (by omega) (by omega) (by
      rw [show decide ((lkT (10 + 4 * n + 13 * j) t o mo m j s l).pc + 1 = (lenterCode n).length) = false from ldec h1 h4 (p := 10 + 4 * n + 13 * j + 1) (by omega), hc]
      show _ = Th.mk _ (10 + 4 * n + 13 * j + 1) _ _ _
      rw [show 10 + 4 * n + 13 * j + 1 = 11 + 4 * n + 13 * j by omega]; rfl)
    have hs := ESh.s6 (n := n) (t := t) j m (lnum (A j)) mo s l hj hne
    by_cases hg : good m (lnum (A j)) t j
    · have e2 : lstw m (lnum (A j)) t j = .pas j m := by unfold lstw; rw [if_pos hg]
      rw [e2] at hs
      exact ⟨.pas j m, EStep.pure h1 h4 ht hi hG hW ha (.t7 j m hne hj hg) e rfl rfl rfl rfl (.inl ⟨rfl, hs⟩)⟩
    · have e2 : lstw m (lnum (A j)) t j = .saw j m := by unfold lstw; rw [if_neg hg]
      rw [e2] at hs
      exact stay e rfl rfl rfl hs
  | s6 j m v mo s l hj hne =>
    by_cases hv : v = 0
    · subst hv
      have e2 : lstw m 0 t j = .pas j m := by unfold lstw; rw [if_pos (.inl rfl)]
      rw [e2] at ha
      refine ⟨.wait (j + 1) m, EStep.next h1 h4 ht hi hG hW ha (.t8 j m) hj rfl rfl rfl (le_b6 h1 h4 hj) (o := 0) (mo := mo) (mi := m) (jj := j) (s := s) (l := l) ?_⟩
      rw [vdo_if0 (by rfl)]; rfl
    · refine stay (ls_pure h1 h4 rfl (le_b6 h1 h4 hj) (T1 := lkT (12 + 4 * n + 13 * j) t v mo m j s l) ?_ rfl (by show 12 + 4 * n + 13 * j < 5 + 17 * n; omega)) rfl rfl rfl (.s7 j m v mo s l hj hne hv)
      rw [vdo_if1 (by show (v : Int) ≠ 0; omega)]
      show (Th.mk _ (11 + 4 * n + 13 * j + 1) _ _ _, ws) = _
      rw [show 11 + 4 * n + 13 * j + 1 = 12 + 4 * n + 13 * j by omega]; rfl
  | s7 j m v mo s l hj hne hv =>
    refine stay (ls_pure h1 h4 rfl (le_b7 h1 h4 hj) (T1 := lkT (13 + 4 * n + 13 * j) t v mo m j s (vflag (decide ((m : Int) < (v : Int))))) ?_ rfl (by show 13 + 4 * n + 13 * j < 5 + 17 * n; omega)) rfl rfl rfl (.s8 j m v mo s hj hne hv)
    show (Th.mk _ (12 + 4 * n + 13 * j + 1) _ _ _, ws) = _
    rw [show 12 + 4 * n + 13 * j + 1 = 13 + 4 * n + 13 * j by omega]; rfl
  | s8 j m v mo s hj hne hv =>
    by_cases hlt : m < v
    · have e1 : vflag (decide ((m : Int) < (v : Int))) = 1 := by rw [decide_eq_true (by omega)]; rfl
      rw [e1]
      have e2 : lstw m v t j = .pas j m := by unfold lstw; rw [if_pos (.inr (.inl hlt))]
      rw [e2] at ha
      refine ⟨.wait (j + 1) m, EStep.next h1 h4 ht hi hG hW ha (.t8 j m) hj rfl rfl rfl (le_b8 h1 h4 hj) (o := v) (mo := mo) (mi := m) (jj := j) (s := s) (l := 1) ?_⟩
      rw [vdo_wn1 (by show (1 : Int) ≠ 0; decide)]; rfl
    · have e1 : vflag (decide ((m : Int) < (v : Int))) = 0 := by rw [decide_eq_false (by omega)]; rfl
      rw [e1]
      rw [e1] at stay
      refine stay (ls_pure h1 h4 rfl (le_b8 h1 h4 hj) (T1 := lkT (14 + 4 * n + 13 * j) t v mo m j s 0) ?_ rfl (by show 14 + 4 * n + 13 * j < 5 + 17 * n; omega)) rfl rfl rfl (.s9 j m v mo s 0 hj hne hv hlt)
      rw [vdo_wn0 (by rfl)]
      show (Th.mk _ (13 + 4 * n + 13 * j + 1) _ _ _, ws) = _
      rw [show 13 + 4 * n + 13 * j + 1 = 14 + 4 * n + 13 * j by omega]; rfl
  | s9 j m v mo s l hj hne hv hlt =>
    refine stay (ls_pure h1 h4 rfl (le_b9 h1 h4 hj) (T1 := lkT (15 + 4 * n + 13 * j) t v mo m j (vflag (decide ((m : Int) = (v : Int)))) l) ?_ rfl (by show 15 + 4 * n + 13 * j < 5 + 17 * n; omega)) rfl rfl rfl (.s10 j m v mo l hj hne hv hlt)
    show (Th.mk _ (14 + 4 * n + 13 * j + 1) _ _ _, ws) = _
    rw [show 14 + 4 * n + 13 * j + 1 = 15 + 4 * n + 13 * j by omega]; rfl
  | s10 j m v mo l hj hne hv hlt =>
    by_cases hmv : m = v
    · subst hmv
      have e1 : vflag (decide ((m : Int) = (m : Int))) = 1 := by rw [decide_eq_true rfl]; rfl
      rw [e1]
      rw [e1] at stay
      refine stay (ls_pure h1 h4 rfl (le_b10 h1 h4 hj) (T1 := lkT (16 + 4 * n + 13 * j) t m mo m j 1 l) ?_ rfl (by show 16 + 4 * n + 13 * j < 5 + 17 * n; omega)) rfl rfl rfl (.s11 j m mo 1 l hj hne hv)
      rw [vdo_if1 (by show (1 : Int) ≠ 0; decide)]
      show (Th.mk _ (15 + 4 * n + 13 * j + 1) _ _ _, ws) = _
      rw [show 15 + 4 * n + 13 * j + 1 = 16 + 4 * n + 13 * j by omega]; rfl
    · have e1 : vflag (decide ((m : Int) = (v : Int))) = 0 := by rw [decide_eq_false (by omega)]; rfl
      rw [e1]
      rw [e1] at stay
      have e2 : lstw m v t j = .saw j m := by unfold lstw; rw [if_neg (by rintro (h | h | h) <;> omega)]
      have hs := ESh.s5 (n := n) (t := t) j m v mo 0 l hj hne
      rw [← e2] at hs
      refine stay (ls_pure h1 h4 rfl (le_b10 h1 h4 hj) (T1 := lkT (10 + 4 * n + 13 * j) t v mo m j 0 l) ?_ rfl (by show 10 + 4 * n + 13 * j < 5 + 17 * n; omega)) rfl rfl rfl hs
      rw [vdo_if0 (by rfl)]; rfl
  | s11 j m mo s l hj hne hm =>
    refine stay (ls_pure h1 h4 rfl (le_b11 h1 h4 hj) (T1 := lkT (17 + 4 * n + 13 * j) t m mo m j s (vflag (decide ((j : Int) < (t : Int))))) ?_ rfl (by show 17 + 4 * n + 13 * j < 5 + 17 * n; omega)) rfl rfl rfl (.s12 j m mo s hj hne hm)
    show (Th.mk _ (16 + 4 * n + 13 * j + 1) _ _ _, ws) = _
    rw [show 16 + 4 * n + 13 * j + 1 = 17 + 4 * n + 13 * j by omega]; rfl
  | s12 j m mo s hj hne hm =>
    by_cases hjt : j < t
    · have e1 : vflag (decide ((j : Int) < (t : Int))) = 1 := by rw [decide_eq_true (by omega)]; rfl
      rw [e1]
      rw [e1] at stay
      have e2 : lstw m m t j = .saw j m := by unfold lstw; rw [if_neg (by rintro (h | h | h) <;> omega)]
      have hs := ESh.s5 (n := n) (t := t) j m m mo s 1 hj hne
      rw [← e2] at hs
      refine stay (ls_pure h1 h4 rfl (le_b12 h1 h4 hj) (T1 := lkT (10 + 4 * n + 13 * j) t m mo m j s 1) ?_ rfl (by show 10 + 4 * n + 13 * j < 5 + 17 * n; omega)) rfl rfl rfl hs
      rw [vdo_wn1 (by show (1 : Int) ≠ 0; decide)]; rfl
    · have e1 : vflag (decide ((j : Int) < (t : Int))) = 0 := by rw [decide_eq_false (by omega)]; rfl
      rw [e1]
      have e2 : lstw m m t j = .pas j m := by unfold lstw; rw [if_pos (.inr (.inr ⟨rfl, by omega⟩))]
      rw [e2] at ha
      refine ⟨.wait (j + 1) m, EStep.next h1 h4 ht hi hG hW ha (.t8 j m) hj rfl rfl rfl (le_b12 h1 h4 hj) (o := m) (mo := mo) (mi := m) (jj := j) (s := s) (l := 0) ?_⟩
      rw [vdo_wn0 (by rfl)]
      show (Th.mk _ (17 + 4 * n + 13 * j + 1) _ _ _, ws) = _
      rw [show 17 + 4 * n + 13 * j + 1 = 5 + 4 * n + 13 * (j + 1) by omega]; rfl
end
/-- the only step of Leave -/
theorem leave_step {n t : Nat} {A : Nat → LA} {ws : List Int} (h1 : 1 ≤ n) (h4 : n ≤ 4) (ht : t < n) (hW : WM n A ws) {m : Nat} (ha : A t = .wait n m) : vstep (lleaveCode n) ⟨(t : Int) :: List.replicate 23 0, 0, [], 0, false⟩ ws = (⟨(t : Int) :: List.replicate 23 0, 1, [], 0, true⟩, vset ws ((n + t : Nat) : Int) 0) ∧ WM n (upd A t .idle) (vset ws ((n + t : Nat) : Int) 0) := by
  have hl := hW.len
  refine ⟨vs_store (code := lleaveCode n) (a := 1) (b := 0) (c := (n : Int)) (d := 0) (t := ⟨(t : Int) :: List.replicate 23 0, 0, [], 0, false⟩) rfl rfl (lwrap (x := (t : Int) + (n : Int)) (by omega) (by omega) |>.trans (by omega)) (by omega) (by omega) rfl, ?_⟩
  exact hW.setn ht (a' := .idle) (by rw [ha]; rfl)
end Go.Proofs.YtbcjgnigdddlkaaDoor
