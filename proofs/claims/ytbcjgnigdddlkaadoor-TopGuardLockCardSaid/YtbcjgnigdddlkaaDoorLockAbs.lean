/-
  The bakery, abstractly: who is behind whom. Plain.
-/
import Derived.Test.YtbcjgnigdddlkaaDoorRunMem
namespace Go.Proofs.YtbcjgnigdddlkaaDoor
open Go.RowKit
set_option linter.unusedVariables false

/-- where a thread is: it takes no part; it looks at the numbers (those below k are behind it; m is the greatest so far; v the one just loaded); it has its number m, and is still taking;
 it waits for the thread j (those below j are behind it), has seen that j takes none, or that j is behind it -/
inductive LA where
  | idle
  | door (k m : Nat)
  | doorL (k m v : Nat)
  | numd (m : Nat)
  | wait (j m : Nat)
  | saw (j m : Nat)
  | pas (j m : Nat)
def lnum : LA → Nat
  | .numd m => m
  | .wait _ m => m
  | .saw _ m => m
  | .pas _ m => m
  | _ => 0
def lchs : LA → Nat
  | .door _ _ => 1
  | .doorL _ _ _ => 1
  | .numd _ => 1
  | _ => 0
/-- the thread j, at a, is behind thread t with number m -/
def Beh (m t j : Nat) : LA → Prop
  | .idle => True
  | .door k x => k ≤ t ∨ m ≤ x
  | .doorL k x v => k < t ∨ (k = t ∧ m ≤ v) ∨ m ≤ x
  | .numd m' => m < m' ∨ (m = m' ∧ t < j)
  | .wait _ m' => m < m' ∨ (m = m' ∧ t < j)
  | .saw _ m' => m < m' ∨ (m = m' ∧ t < j)
  | .pas _ m' => m < m' ∨ (m = m' ∧ t < j)
/-- if it is taking a number, it will be a greater one -/
def Saw (m t : Nat) : LA → Prop
  | .door k x => k ≤ t ∨ m ≤ x
  | .doorL k x v => k < t ∨ (k = t ∧ m ≤ v) ∨ m ≤ x
  | _ => True
theorem Beh.saw {m t j : Nat} : ∀ {a : LA}, Beh m t j a → Saw m t a
  | .idle, _ => trivial
  | .door _ _, h => h
  | .doorL _ _ _, h => h
  | .numd _, _ => trivial
  | .wait _ _, _ => trivial
  | .saw _ _, _ => trivial
  | .pas _ _, _ => trivial
def Rel2 (t j : Nat) (at_ aj : LA) : Prop :=
  match at_ with
  | .wait J m => j < J → Beh m t j aj
  | .saw J m => (j < J → Beh m t j aj) ∧ (j = J → Saw m t aj)
  | .pas J m => j ≤ J → Beh m t j aj
  | _ => True
def good (m v t j : Nat) : Prop := v = 0 ∨ m < v ∨ (m = v ∧ t < j)
instance (m v t j : Nat) : Decidable (good m v t j) := by unfold good; infer_instance
/-- a step of thread t, where A tells of all threads -/
inductive LTr (n : Nat) (A : Nat → LA) (t : Nat) : LA → LA → Prop
  | stay (a : LA) : LTr n A t a a
  | t1 : LTr n A t .idle (.door 0 0)
  | t2 (k x : Nat) (hk : k < n) : LTr n A t (.door k x) (.doorL k x (lnum (A k)))
  | t3 (k x v : Nat) : LTr n A t (.doorL k x v) (.door (k + 1) (max x v))
  | t4 (x : Nat) : LTr n A t (.door n x) (.numd (x + 1))
  | t5 (m : Nat) : LTr n A t (.numd m) (.wait 0 m)
  | t6a (m : Nat) : LTr n A t (.wait t m) (.wait (t + 1) m)
  | t6 (j m : Nat) (hj : j ≠ t) (hn : j < n) (hc : lchs (A j) = 0) : LTr n A t (.wait j m) (.saw j m)
  | t7 (j m : Nat) (hj : j ≠ t) (hn : j < n) (hg : good m (lnum (A j)) t j) : LTr n A t (.saw j m) (.pas j m)
  | t8 (j m : Nat) : LTr n A t (.pas j m) (.wait (j + 1) m)
  | t10 (m : Nat) : LTr n A t (.wait n m) .idle
/-- numbers are above 0, and not above i -/
def LBd (i : Nat) : LA → Prop
  | .idle => True
  | .door _ x => x ≤ i
  | .doorL _ x v => x ≤ i ∧ v ≤ i
  | .numd m => 1 ≤ m ∧ m ≤ i
  | .wait _ m => 1 ≤ m ∧ m ≤ i
  | .saw _ m => 1 ≤ m ∧ m ≤ i
  | .pas _ m => 1 ≤ m ∧ m ≤ i
theorem LBd.mono {i j : Nat} (hij : i ≤ j) : ∀ {a : LA}, LBd i a → LBd j a
  | .idle, _ => trivial
  | .door _ _, h => Nat.le_trans h hij
  | .doorL _ _ _, h => ⟨Nat.le_trans h.1 hij, Nat.le_trans h.2 hij⟩
  | .numd _, h => ⟨h.1, Nat.le_trans h.2 hij⟩
  | .wait _ _, h => ⟨h.1, Nat.le_trans h.2 hij⟩
  | .saw _ _, h => ⟨h.1, Nat.le_trans h.2 hij⟩
  | .pas _ _, h => ⟨h.1, Nat.le_trans h.2 hij⟩
theorem LBd.num {i : Nat} : ∀ {a : LA}, LBd i a → lnum a ≤ i
  | .idle, _ => Nat.zero_le _
  | .door _ _, _ => Nat.zero_le _
  | .doorL _ _ _, _ => Nat.zero_le _
  | .numd _, h => h.2
  | .wait _ _, h => h.2
  | .saw _ _, h => h.2
  | .pas _ _, h => h.2
theorem LBd.tr {n i t : Nat} {A : Nat → LA} {a a' : LA} (h : LTr n A t a a') (hb : LBd i a) (hA : ∀ j, j < n → LBd i (A j)) : LBd (i + 1) a' := by
  cases h with
  | stay => exact hb.mono (Nat.le_succ i)
  | t1 => exact Nat.zero_le _
  | t2 k x hk => exact ⟨Nat.le_succ_of_le hb, Nat.le_succ_of_le (hA k hk).num⟩
  | t3 k x v => exact Nat.le_succ_of_le (Nat.max_le.2 hb)
  | t4 x => exact ⟨by omega, Nat.succ_le_succ hb⟩
  | t5 m => exact ⟨hb.1, Nat.le_succ_of_le hb.2⟩
  | t6a m => exact ⟨hb.1, Nat.le_succ_of_le hb.2⟩
  | t6 j m => exact ⟨hb.1, Nat.le_succ_of_le hb.2⟩
  | t7 j m => exact ⟨hb.1, Nat.le_succ_of_le hb.2⟩
  | t8 j m => exact ⟨hb.1, Nat.le_succ_of_le hb.2⟩
  | t10 m => trivial
structure GInv (n i : Nat) (A : Nat → LA) : Prop where
  bd : ∀ t, t < n → LBd i (A t)
  rel : ∀ t j, t < n → j < n → t ≠ j → Rel2 t j (A t) (A j)
/-- who was behind is still so, when it does a step -/
theorem Beh.tr {n m u t : Nat} {A : Nat → LA} {a a' : LA} (h : LTr n A t a a') (hu : u < n) (hm : lnum (A u) = m) (hb : Beh m u t a) : Beh m u t a' := by
  cases h with
  | stay => exact hb
  | t1 => exact .inl (Nat.zero_le _)
  | t2 k x hk =>
    rcases hb with h | h
    · by_cases e : k = u
      · subst e; exact .inr (.inl ⟨rfl, by rw [hm]; exact Nat.le_refl _⟩)
      · exact .inl (by omega)
    · exact .inr (.inr h)
  | t3 k x v =>
    rcases hb with h | ⟨h1, h2⟩ | h
    · exact .inl h
    · exact .inr (Nat.le_trans h2 (Nat.le_max_right _ _))
    · exact .inr (Nat.le_trans h (Nat.le_max_left _ _))
  | t4 x =>
    rcases hb with h | h
    · omega
    · exact .inl (Nat.lt_succ_of_le h)
  | t5 m => exact hb
  | t6a m => exact hb
  | t6 j m => exact hb
  | t7 j m => exact hb
  | t8 j m => exact hb
  | t10 m => trivial
theorem Saw.tr {n m u t : Nat} {A : Nat → LA} {a a' : LA} (h : LTr n A t a a') (hu : u < n) (hm : lnum (A u) = m) (hb : Saw m u a) : Saw m u a' := by
  cases h with
  | stay => exact hb
  | t1 => exact .inl (Nat.zero_le _)
  | t2 k x hk =>
    rcases hb with h | h
    · by_cases e : k = u
      · subst e; exact .inr (.inl ⟨rfl, by rw [hm]; exact Nat.le_refl _⟩)
      · exact .inl (by omega)
    · exact .inr (.inr h)
  | t3 k x v =>
    rcases hb with h | ⟨h1, h2⟩ | h
    · exact .inl h
    · exact .inr (Nat.le_trans h2 (Nat.le_max_right _ _))
    · exact .inr (Nat.le_trans h (Nat.le_max_left _ _))
  | t4 x => trivial
  | t5 m => trivial
  | t6a m => trivial
  | t6 j m => trivial
  | t7 j m => trivial
  | t8 j m => trivial
  | t10 m => trivial
theorem Rel2.other {n u t : Nat} {A : Nat → LA} {a' : LA} (h : LTr n A t (A t) a') (hu : u < n) (hr : Rel2 u t (A u) (A t)) : Rel2 u t (A u) a' := by
  cases ha : A u with
  | idle => trivial
  | door => trivial
  | doorL => trivial
  | numd => trivial
  | wait J m =>
    rw [ha] at hr
    exact fun hj => (hr hj).tr h hu (by rw [ha]; rfl)
  | saw J m =>
    rw [ha] at hr
    exact ⟨fun hj => (hr.1 hj).tr h hu (by rw [ha]; rfl), fun hj => Saw.tr h hu (by rw [ha]; rfl) (hr.2 hj)⟩
  | pas J m =>
    rw [ha] at hr
    exact fun hj => (hr hj).tr h hu (by rw [ha]; rfl)
theorem Rel2.self {n t j : Nat} {A : Nat → LA} {a a' aj : LA} (h : LTr n A t a a') (hj : j < n) (hne : t ≠ j) (haj : A j = aj) (hb : ∃ i, LBd i aj) (hr : Rel2 t j a aj) : Rel2 t j a' aj := by
  cases h with
  | stay => exact hr
  | t1 => trivial
  | t2 k x hk => trivial
  | t3 k x v => trivial
  | t4 x => trivial
  | t5 m => exact fun hj => absurd hj (Nat.not_lt_zero _)
  | t6a m => exact fun hlt => hr (by omega)
  | t6 J m hJ hn hc =>
    refine ⟨hr, fun e => ?_⟩
    subst e
    rw [haj] at hc
    cases aj with
    | door => cases hc
    | doorL => cases hc
    | _ => trivial
  | t7 J m hJ hn hg =>
    intro hle
    by_cases e : j = J
    · subst e
      have hs := hr.2 rfl
      rw [haj] at hg
      unfold good at hg
      cases aj with
      | idle => trivial
      | door k x => exact hs
      | doorL k x v => exact hs
      | numd m' =>
        obtain ⟨i, hb⟩ := hb
        have h1 : 1 ≤ m' := hb.1
        rcases hg with h | h
        · have h : m' = 0 := h
          omega
        · exact h
      | wait _ m' =>
        obtain ⟨i, hb⟩ := hb
        have h1 : 1 ≤ m' := hb.1
        rcases hg with h | h
        · have h : m' = 0 := h
          omega
        · exact h
      | saw _ m' =>
        obtain ⟨i, hb⟩ := hb
        have h1 : 1 ≤ m' := hb.1
        rcases hg with h | h
        · have h : m' = 0 := h
          omega
        · exact h
      | pas _ m' =>
        obtain ⟨i, hb⟩ := hb
        have h1 : 1 ≤ m' := hb.1
        rcases hg with h | h
        · have h : m' = 0 := h
          omega
        · exact h
    · exact hr.1 (by omega)
  | t8 J m => exact fun hlt => hr (by omega)
  | t10 m => trivial
theorem GInv.step {n i t : Nat} {A : Nat → LA} {a' : LA} (h : GInv n i A) (ht : t < n) (htr : LTr n A t (A t) a') : GInv n (i + 1) (upd A t a') := by
  refine ⟨fun u hu => ?_, fun u j hu hj hne => ?_⟩
  · by_cases e : u = t
    · subst e; rw [upd_same]; exact LBd.tr htr (h.bd u hu) h.bd
    · rw [upd_ne _ _ _ _ e]; exact (h.bd u hu).mono (Nat.le_succ i)
  · by_cases e : u = t
    · subst e
      rw [upd_same, upd_ne _ _ _ _ (fun e => hne e.symm)]
      exact Rel2.self htr hj hne rfl ⟨i, h.bd j hj⟩ (h.rel u j hu hj hne)
    · rw [upd_ne _ _ _ _ e]
      by_cases e2 : j = t
      · subst e2
        rw [upd_same]
        exact Rel2.other htr hu (h.rel u j hu hj hne)
      · rw [upd_ne _ _ _ _ e2]
        exact h.rel u j hu hj hne
theorem GInv.mono {n i : Nat} {A : Nat → LA} (h : GInv n i A) : GInv n (i + 1) A := ⟨fun t ht => (h.bd t ht).mono (Nat.le_succ i), h.rel⟩
/-- no two are through -/
theorem GInv.one {n i t u m m' : Nat} {A : Nat → LA} (h : GInv n i A) (ht : t < n) (hu : u < n) (hne : t ≠ u) (h1 : A t = .wait n m) (h2 : A u = .wait n m') : False := by
  have a := h.rel t u ht hu hne
  have b := h.rel u t hu ht (fun e => hne e.symm)
  rw [h1, h2] at a b
  have a := a hu
  have b := b ht
  unfold Beh at a b
  simp only at a b
  omega
theorem GInv.init (n : Nat) : GInv n 0 (fun _ => .idle) := ⟨fun _ _ => trivial, fun _ _ _ _ _ => trivial⟩
end Go.Proofs.YtbcjgnigdddlkaaDoor
