/-
  Package cell: a Put is done in its steps, a Get that is alone too; plain laws.
-/
import Derived.Test.YtabmkjokeeakdaaDoorCellMach
import Derived.Test.YtabmkjokeeakdaaDoorQuiet
import Derived.Test.YtabmkjokeeakdaaDoorWStep
namespace Go.Proofs.YtabmkjokeeakdaaDoor
open Go.RowKit
set_option linter.unusedVariables false

theorem cv_ne (ws : List Int) {i j : Int} (x : Int) (h : i.toNat ≠ j.toNat) : vget (vset ws i x) j = vget ws j := by
  unfold vget vset
  rw [List.getD_eq_getElem?_getD, List.getD_eq_getElem?_getD, List.getElem?_set_ne h]
theorem cv_eq (ws : List Int) {i : Int} (x : Int) (h : i.toNat < ws.length) : vget (vset ws i x) i = x := by
  unfold vget vset
  rw [List.getD_eq_getElem?_getD, List.getElem?_set_self h]
  rfl
/-! ### the thread that puts: its states are closed -/
/-- the words ahead of the k-th Put -/
def cW0 (n k : Nat) : List Int := (2 * (k : Int)) :: (if k = 0 then List.replicate n 0 else cargs n (k - 1))
/-- the k-th Put behind p steps -/
def cpst (n k : Nat) : Nat → Th × List Int
  | 0 => (vbegin (cputCode n).length (cargs n k), cW0 n k)
  | p + 1 => vstep (cputCode n) (cpst n k p).1 (cpst n k p).2
def cpokb (n k p : Nat) : Bool := !(cpst n k p).1.over && (cpst n k p).1.err == 0 && (cpst n k p).1.pc == p && (cpst n k p).2.length == n + 1
def cpendb (n k : Nat) : Bool := (cpst n k (n + 6)).1.over && (cpst n k (n + 6)).1.err == 0 && (cpst n k (n + 6)).2 == cW0 n (k + 1)
set_option maxRecDepth 1000000 in
theorem cpok_all : ((List.range 6).all fun a => (List.range 12).all fun k => cpendb (a + 1) k && (List.range (a + 7)).all fun p => cpokb (a + 1) k p) = true := by decide +kernel
theorem cpok {n k p : Nat} (h1 : 1 ≤ n) (h6 : n ≤ 6) (hk : k < 12) (hp : p < n + 6) : (cpst n k p).1.over = false ∧ (cpst n k p).1.err = 0 ∧ (cpst n k p).1.pc = p ∧ (cpst n k p).2.length = n + 1 := by
  have h := cpok_all
  rw [List.all_eq_true] at h
  have h := h (n - 1) (by rw [List.mem_range]; omega)
  rw [List.all_eq_true] at h
  have h := h k (by rw [List.mem_range]; omega)
  rw [Bool.and_eq_true, List.all_eq_true] at h
  have h := h.2 p (by rw [List.mem_range]; omega)
  rw [show n - 1 + 1 = n by omega] at h
  unfold cpokb at h
  simp only [Bool.and_eq_true, beq_iff_eq, Bool.not_eq_true'] at h
  exact ⟨h.1.1.1, h.1.1.2, h.1.2, h.2⟩
theorem cpend {n k : Nat} (h1 : 1 ≤ n) (h6 : n ≤ 6) (hk : k < 12) : (cpst n k (n + 6)).1.over = true ∧ (cpst n k (n + 6)).1.err = 0 ∧ (cpst n k (n + 6)).2 = cW0 n (k + 1) := by
  have h := cpok_all
  rw [List.all_eq_true] at h
  have h := h (n - 1) (by rw [List.mem_range]; omega)
  rw [List.all_eq_true] at h
  have h := h k (by rw [List.mem_range]; omega)
  rw [Bool.and_eq_true] at h
  have h := h.1
  rw [show n - 1 + 1 = n by omega] at h
  unfold cpendb at h
  simp only [Bool.and_eq_true, beq_iff_eq] at h
  exact ⟨h.1.1, h.1.2, h.2⟩
theorem cW0_len (n k : Nat) : (cW0 n k).length = n + 1 := by
  unfold cW0 cargs
  split <;> simp
/-! ### a Get -/
def gop (n p : Nat) : Op5 := if p = 0 then ⟨1, 0, 2, 0, 0⟩ else if p = 1 then ⟨13, 1, 2, 0, 0⟩ else if p = 2 then ⟨7, 3, 1, 0, 0⟩ else if p = 3 then ⟨11, 3, 1, 0, 0⟩ else if p < 4 + n then ⟨13, p, 2, (p : Int) - 3, 0⟩ else if p = 4 + n then ⟨13, p, 2, 0, 0⟩ else if p = 5 + n then ⟨8, p, 1, (p : Int) - 1, 0⟩ else if p = 6 + n then ⟨12, (p : Int) - 1, 1, 0, 0⟩ else ⟨16, (p : Int) - 3 - n, 0, 0, 0⟩
theorem gop_all : ((List.range 6).all fun a => (List.range (2 * a + 9)).all fun p => decide ((cgetCode (a + 1))[p]? = some (gop (a + 1) p))) = true := by decide +kernel
theorem gop_at {n p : Nat} (h1 : 1 ≤ n) (h6 : n ≤ 6) (hp : p < 2 * n + 7) : (cgetCode n)[p]? = some (gop n p) := by
  have h := gop_all
  rw [List.all_eq_true] at h
  have h := h (n - 1) (by rw [List.mem_range]; omega)
  rw [List.all_eq_true] at h
  have h := h p (by rw [List.mem_range]; omega)
  rw [show n - 1 + 1 = n by omega] at h
  exact of_decide_eq_true h
/-- a Get under way -/
structure GetS (n : Nat) (t : Th) : Prop where
  over : t.over = false
  err : t.err = 0
  pc : t.pc < 2 * n + 7
  regs : t.regs.length = 24
  base : vget t.regs 2 = 0
  two : 1 ≤ t.pc → vget t.regs 0 = 2
  told : t.told.length ≤ t.pc - (7 + n)
theorem GetS.begin {n : Nat} (h1 : 1 ≤ n) (h6 : n ≤ 6) : GetS n (vbegin (cgetCode n).length []) := by
  rcases (show n = 1 ∨ n = 2 ∨ n = 3 ∨ n = 4 ∨ n = 5 ∨ n = 6 by omega) with rfl | rfl | rfl | rfl | rfl | rfl <;>
    exact ⟨rfl, rfl, by decide, rfl, rfl, fun h => absurd h (by decide), Nat.zero_le _⟩
/-- what a step of a Get does -/
def gnext (n : Nat) (t : Th) (ws : List Int) : Th :=
  let p := t.pc
  if p = 0 then { t with regs := vset t.regs 0 2, pc := 1 } else
  if p = 1 then { t with regs := vset t.regs 1 (vget ws 0), pc := 2 } else
  if p = 2 then { t with regs := vset t.regs 3 (Int.tmod (vget t.regs 1) 2), pc := 3 } else
  if p = 3 then { t with pc := if vget t.regs 3 ≠ 0 then 1 else 4 } else
  if p < 4 + n then { t with regs := vset t.regs p (vget ws ((p : Int) - 3)), pc := p + 1 } else
  if p = 4 + n then { t with regs := vset t.regs p (vget ws 0), pc := p + 1 } else
  if p = 5 + n then { t with regs := vset t.regs p (vflag (decide (vget t.regs 1 = vget t.regs ((p : Int) - 1)))), pc := p + 1 } else
  if p = 6 + n then { t with pc := if vget t.regs ((p : Int) - 1) = 0 then 1 else p + 1 } else
  { t with told := t.told ++ [vget t.regs ((p : Int) - 3 - n)], pc := p + 1, over := decide (p + 1 = 2 * n + 7) }
theorem gstep {n : Nat} (h1 : 1 ≤ n) (h6 : n ≤ 6) {t : Th} {ws : List Int} (h : GetS n t) (hw : ws.length = n + 1) : vstep (cgetCode n) t ws = (gnext n t ws, ws) := by
  obtain ⟨regs, pc, told, err, over⟩ := t
  obtain ⟨a1, a2, a3, a4, a5, a6, a7⟩ := h
  simp only at a1 a2 a3 a4 a5 a6 a7
  subst a1 a2
  have hlen := cget_len h1 h6
  have wz : ∀ x : Int, 0 ≤ x → x ≤ 20 → wrap64 (0 + x) = x := fun x h0 h1 => by unfold wrap64; omega
  rw [wsp_over (cgetCode n) ⟨regs, pc, told, 0, false⟩ ws _ rfl (gop_at h1 h6 a3), hlen]
  unfold gop gnext
  simp only
  split
  · rename_i e; subst e
    simp [vdo]
  split
  · rename_i e; subst e
    have hz := wz 0 (by omega) (by omega)
    have hb : ¬ ((0 : Int) < 0 ∨ (ws.length : Int) ≤ 0) := by omega
    simp only [vdo, vother, a5, hz, hb]
    simp
    try omega
  split
  · rename_i e; subst e
    simp [vdo, vquo, a6 (by omega)]
  split
  · rename_i e; subst e
    by_cases hr : vget regs 3 = 0 <;> simp [vdo, vother, hr]
  split
  · rename_i e0 e1 e2 e3 e
    have hp : ¬ (pc + 1 = 2 * n + 7) := by omega
    have hz := wz ((pc : Int) - 3) (by omega) (by omega)
    have hb : ¬ ((pc : Int) - 3 < 0 ∨ (ws.length : Int) ≤ (pc : Int) - 3) := by omega
    simp only [vdo, vother, a5, hz, hb]
    simp
    try omega
  split
  · rename_i e0 e1 e2 e3 e4 e
    have hp : ¬ (pc + 1 = 2 * n + 7) := by omega
    have hz := wz 0 (by omega) (by omega)
    have hb : ¬ ((0 : Int) < 0 ∨ (ws.length : Int) ≤ 0) := by omega
    simp only [vdo, vother, a5, hz, hb]
    simp
    try omega
  split
  · rename_i e0 e1 e2 e3 e4 e5 e
    simp [vdo]
    try omega
  split
  · rename_i e0 e1 e2 e3 e4 e5 e6 e
    by_cases hr : vget regs ((pc : Int) - 1) = 0 <;> simp [vdo, vother, hr] <;> omega
  · have hl : ¬ told.length = 200 := by omega
    simp [vdo, vother, hl]
theorem gnext_keep {n : Nat} (h1 : 1 ≤ n) (h6 : n ≤ 6) {t : Th} (ws : List Int) (h : GetS n t) (ho : (gnext n t ws).over = false) : GetS n (gnext n t ws) ∧ ((gnext n t ws).pc = t.pc + 1 ∨ (gnext n t ws).pc = 1) := by
  obtain ⟨regs, pc, told, err, over⟩ := t
  obtain ⟨a1, a2, a3, a4, a5, a6, a7⟩ := h
  simp only at a1 a2 a3 a4 a5 a6 a7
  subst a1 a2
  have sl : ∀ (i x : Int), (vset regs i x).length = 24 := fun i x => by unfold vset; rw [List.length_set]; exact a4
  unfold gnext at ho ⊢
  simp only at ho ⊢
  split
  · rename_i e; subst e
    exact ⟨⟨rfl, rfl, by show 1 < _; omega, sl _ _, (cv_ne _ _ (by decide)).trans a5, fun _ => cv_eq _ _ (by rw [a4]; decide), by simp only; omega⟩, .inl rfl⟩
  split
  · rename_i e; subst e
    exact ⟨⟨rfl, rfl, by show 2 < _; omega, sl _ _, (cv_ne _ _ (by decide)).trans a5, fun _ => (cv_ne _ _ (by decide)).trans (a6 (by omega)), by simp only; omega⟩, .inl rfl⟩
  split
  · rename_i e; subst e
    exact ⟨⟨rfl, rfl, by show 3 < _; omega, sl _ _, (cv_ne _ _ (by decide)).trans a5, fun _ => (cv_ne _ _ (by decide)).trans (a6 (by omega)), by simp only; omega⟩, .inl rfl⟩
  split
  · rename_i e; subst e
    by_cases hr : vget regs 3 ≠ 0
    · rw [if_pos hr]; exact ⟨⟨rfl, rfl, by show 1 < _; omega, a4, a5, fun _ => a6 (by omega), by simp only; omega⟩, .inr rfl⟩
    · rw [if_neg hr]; exact ⟨⟨rfl, rfl, by show 4 < _; omega, a4, a5, fun _ => a6 (by omega), by simp only; omega⟩, .inl rfl⟩
  split
  · rename_i e0 e1 e2 e3 e
    exact ⟨⟨rfl, rfl, by show pc + 1 < _; omega, sl _ _, (cv_ne _ _ (by omega)).trans a5, fun _ => (cv_ne _ _ (by omega)).trans (a6 (by omega)), by simp only; omega⟩, .inl rfl⟩
  split
  · rename_i e0 e1 e2 e3 e4 e
    exact ⟨⟨rfl, rfl, by show pc + 1 < _; omega, sl _ _, (cv_ne _ _ (by omega)).trans a5, fun _ => (cv_ne _ _ (by omega)).trans (a6 (by omega)), by simp only; omega⟩, .inl rfl⟩
  split
  · rename_i e0 e1 e2 e3 e4 e5 e
    exact ⟨⟨rfl, rfl, by show pc + 1 < _; omega, sl _ _, (cv_ne _ _ (by omega)).trans a5, fun _ => (cv_ne _ _ (by omega)).trans (a6 (by omega)), by simp only; omega⟩, .inl rfl⟩
  split
  · rename_i e0 e1 e2 e3 e4 e5 e6 e
    by_cases hr : vget regs ((pc : Int) - 1) = 0
    · rw [if_pos hr]; exact ⟨⟨rfl, rfl, by show 1 < _; omega, a4, a5, fun _ => a6 (by omega), by simp only; omega⟩, .inr rfl⟩
    · rw [if_neg hr]; exact ⟨⟨rfl, rfl, by show pc + 1 < _; omega, a4, a5, fun _ => a6 (by omega), by simp only; omega⟩, .inl rfl⟩
  · rename_i e0 e1 e2 e3 e4 e5 e6 e7
    rw [if_neg e0, if_neg e1, if_neg e2, if_neg e3, if_neg e4, if_neg e5, if_neg e6, if_neg e7] at ho
    have hp : ¬ pc + 1 = 2 * n + 7 := of_decide_eq_false ho
    exact ⟨⟨ho, rfl, by show pc + 1 < _; omega, a4, a5, fun _ => a6 (by omega), by simp only [List.length_append, List.length_cons, List.length_nil]; omega⟩, .inl rfl⟩
theorem gnext_over {n : Nat} {t : Th} (ws : List Int) (h : GetS n t) (ho : (gnext n t ws).over = true) : t.pc + 1 = 2 * n + 7 ∧ (gnext n t ws).err = 0 := by
  obtain ⟨regs, pc, told, err, over⟩ := t
  obtain ⟨a1, a2, a3, a4, a5, a6, a7⟩ := h
  simp only at a1 a2 a3 a4 a5 a6 a7
  subst a1 a2
  unfold gnext at ho ⊢
  simp only at ho ⊢
  by_cases e0 : pc = 0
  · rw [if_pos e0] at ho; cases ho
  rw [if_neg e0] at ho ⊢
  by_cases e1 : pc = 1
  · rw [if_pos e1] at ho; cases ho
  rw [if_neg e1] at ho ⊢
  by_cases e2 : pc = 2
  · rw [if_pos e2] at ho; cases ho
  rw [if_neg e2] at ho ⊢
  by_cases e3 : pc = 3
  · rw [if_pos e3] at ho; cases ho
  rw [if_neg e3] at ho ⊢
  by_cases e4 : pc < 4 + n
  · rw [if_pos e4] at ho; cases ho
  rw [if_neg e4] at ho ⊢
  by_cases e5 : pc = 4 + n
  · rw [if_pos e5] at ho; cases ho
  rw [if_neg e5] at ho ⊢
  by_cases e6 : pc = 5 + n
  · rw [if_pos e6] at ho; cases ho
  rw [if_neg e6] at ho ⊢
  by_cases e7 : pc = 6 + n
  · rw [if_pos e7] at ho; cases ho
  rw [if_neg e7] at ho ⊢
  exact ⟨of_decide_eq_true ho, rfl⟩
/-- a Get that will not go back -/
structure Gd (n : Nat) (ws : List Int) (t : Th) : Prop where
  get : GetS n t
  p1 : 1 ≤ t.pc
  turn : 2 ≤ t.pc → t.pc ≤ 5 + n → vget t.regs 1 = vget ws 0
  odd : t.pc = 3 → vget t.regs 3 = 0
  now : t.pc = 5 + n → vget t.regs ((t.pc : Int) - 1) = vget ws 0
  same : t.pc = 6 + n → vget t.regs ((t.pc : Int) - 1) = 1
theorem Gd.next {n : Nat} (h1 : 1 ≤ n) (h6 : n ≤ 6) {t : Th} {ws : List Int} (hE : Int.tmod (vget ws 0) 2 = 0) (h : Gd n ws t) (ho : (gnext n t ws).over = false) : Gd n ws (gnext n t ws) ∧ (gnext n t ws).pc = t.pc + 1 := by
  have hk := (gnext_keep h1 h6 ws h.get ho).1
  obtain ⟨regs, pc, told, err, over⟩ := t
  obtain ⟨⟨a1, a2, a3, a4, a5, a6, a7⟩, b1, b2, b3, b4, b5⟩ := h
  simp only at a1 a2 a3 a4 a5 a6 a7 b1 b2 b3 b4 b5
  subst a1 a2
  revert hk
  unfold gnext
  simp only
  rw [if_neg (by omega)]
  by_cases e1 : pc = 1
  · rw [if_pos e1]; intro hk; subst e1
    exact ⟨⟨hk, by simp only; omega, fun _ _ => cv_eq _ _ (by rw [a4]; decide), fun e => absurd e (by simp), fun e => absurd e (by simp only; omega), fun e => absurd e (by simp only; omega)⟩, rfl⟩
  rw [if_neg e1]
  by_cases e2 : pc = 2
  · rw [if_pos e2]; intro hk; subst e2
    exact ⟨⟨hk, by simp only; omega, fun _ _ => (cv_ne _ _ (by decide)).trans (b2 (by omega) (by omega)), fun _ => by simp only; rw [b2 (by omega) (by omega), hE]; exact cv_eq _ _ (by rw [a4]; decide), fun e => absurd e (by simp only; omega), fun e => absurd e (by simp only; omega)⟩, rfl⟩
  rw [if_neg e2]
  by_cases e3 : pc = 3
  · rw [if_pos e3, if_neg (by rw [b3 e3]; decide)]; intro hk; subst e3
    exact ⟨⟨hk, by simp only; omega, fun _ _ => b2 (by omega) (by omega), fun e => absurd e (by simp), fun e => absurd e (by simp only; omega), fun e => absurd e (by simp only; omega)⟩, rfl⟩
  rw [if_neg e3]
  by_cases e4 : pc < 4 + n
  · rw [if_pos e4]; intro hk
    exact ⟨⟨hk, by simp only; omega, fun _ _ => (cv_ne _ _ (by omega)).trans (b2 (by omega) (by omega)), fun e => absurd e (by simp only; omega), fun e => absurd e (by simp only; omega), fun e => absurd e (by simp only; omega)⟩, rfl⟩
  rw [if_neg e4]
  by_cases e5 : pc = 4 + n
  · rw [if_pos e5]; intro hk
    exact ⟨⟨hk, by simp only; omega, fun _ _ => (cv_ne _ _ (by omega)).trans (b2 (by omega) (by omega)), fun e => absurd e (by simp only; omega), fun _ => by simp only; rw [show (((pc + 1 : Nat) : Int) - 1) = (pc : Int) by omega]; exact cv_eq _ _ (by rw [a4]; omega), fun e => absurd e (by simp only; omega)⟩, rfl⟩
  rw [if_neg e5]
  by_cases e6 : pc = 5 + n
  · rw [if_pos e6]; intro hk
    exact ⟨⟨hk, by simp only; omega, fun _ h => absurd h (by simp only; omega), fun e => absurd e (by simp only; omega), fun e => absurd e (by simp only; omega), fun _ => by simp only; rw [show (((pc + 1 : Nat) : Int) - 1) = (pc : Int) by omega, b2 (by omega) (by omega), b4 e6, decide_eq_true rfl]; exact cv_eq _ _ (by rw [a4]; omega)⟩, rfl⟩
  rw [if_neg e6]
  by_cases e7 : pc = 6 + n
  · rw [if_pos e7, if_neg (by rw [b5 e7]; decide)]; intro hk
    exact ⟨⟨hk, by simp only; omega, fun _ h => absurd h (by simp only; omega), fun e => absurd e (by simp only; omega), fun e => absurd e (by simp only; omega), fun e => absurd e (by simp only; omega)⟩, rfl⟩
  rw [if_neg e7]; intro hk
  exact ⟨⟨hk, by simp only; omega, fun _ h => absurd h (by simp only; omega), fun e => absurd e (by simp only; omega), fun e => absurd e (by simp only; omega), fun e => absurd e (by simp only; omega)⟩, rfl⟩
theorem Gd.ends {n : Nat} (h1 : 1 ≤ n) (h6 : n ≤ 6) {ws : List Int} (hw : ws.length = n + 1) (hE : Int.tmod (vget ws 0) 2 = 0) : ∀ (q : Nat) (t : Th), Gd n ws t → 2 * n + 7 ≤ t.pc + q → ∃ m t', m ≤ q ∧ Ends (cgetCode n) t ws m t' ws ∧ t'.err = 0
  | 0, t, h, hq => by have := h.get.pc; omega
  | q + 1, t, h, hq => by
    have hs := gstep h1 h6 h.get hw
    cases ho : (gnext n t ws).over with
    | true => exact ⟨1, _, by omega, .last hs ho, (gnext_over ws h.get ho).2⟩
    | false =>
      obtain ⟨g1, g2⟩ := h.next h1 h6 hE ho
      obtain ⟨m, t', m1, m2, m3⟩ := Gd.ends h1 h6 hw hE q _ g1 (by omega)
      exact ⟨m + 1, t', by omega, .more hs ho m2, m3⟩
theorem GetS.ends {n : Nat} (h1 : 1 ≤ n) (h6 : n ≤ 6) {ws : List Int} (hw : ws.length = n + 1) (hE : Int.tmod (vget ws 0) 2 = 0) : ∀ (q : Nat) (t : Th), GetS n t → 2 * n + 7 ≤ t.pc + q → ∃ m t', m ≤ q + (2 * n + 6) ∧ Ends (cgetCode n) t ws m t' ws ∧ t'.err = 0
  | 0, t, h, hq => by have := h.pc; omega
  | q + 1, t, h, hq => by
    have hs := gstep h1 h6 h hw
    cases ho : (gnext n t ws).over with
    | true => exact ⟨1, _, by omega, .last hs ho, (gnext_over ws h ho).2⟩
    | false =>
      obtain ⟨g1, g2⟩ := gnext_keep h1 h6 ws h ho
      rcases g2 with g2 | g2
      · obtain ⟨m, t', m1, m2, m3⟩ := GetS.ends h1 h6 hw hE q _ g1 (by omega)
        exact ⟨m + 1, t', by omega, .more hs ho m2, m3⟩
      · obtain ⟨m, t', m1, m2, m3⟩ := Gd.ends h1 h6 hw hE (2 * n + 6) (gnext n t ws) ⟨g1, by omega, fun h => absurd h (by omega), fun h => absurd h (by omega), fun h => absurd h (by omega), fun h => absurd h (by omega)⟩ (by omega)
        exact ⟨m + 1, t', by omega, .more hs ho m2, m3⟩
/-! ### all runs -/
structure CI (l : List Nat) (n : Nat) (i : Nat) (ths : List PT) (ws : List Int) (ds : List Dg) : Prop where
  len : ws.length = n + 1
  t0n : ∀ nx, ths[0]? = some ⟨nx, none⟩ → nx ≤ 12 ∧ ws = cW0 n nx
  t0s : ∀ nx ci t, ths[0]? = some ⟨nx, some (ci, t)⟩ → ci = 0 ∧ 1 ≤ nx ∧ nx ≤ 12 ∧ ∃ p, p < n + 6 ∧ cpst n (nx - 1) p = (t, ws)
  ts : ∀ j nx ci t, j ≠ 0 → ths[j]? = some ⟨nx, some (ci, t)⟩ → ci = 1 ∧ GetS n t
  c1 : ∀ (k : Nat) (d : Dg) (e : Nat), ds[k]? = some d → d.t = 0 → d.e = some e → cnt l d.b (e + 1) 0 ≤ n + 6
  c2 : ∀ (k : Nat) (d : Dg), ds[k]? = some d → d.t = 0 → d.e = none → ∃ (nx ci : Nat) (t : Th), ths[0]? = some ⟨nx, some (ci, t)⟩ ∧ cnt l d.b i 0 ≤ t.pc
theorem cth_0 (n P G : Nat) : (cmach n P G).threads[0]? = some ((List.range P).map fun q => ⟨0, cargs n q⟩) := rfl
theorem cth_1 {n P G j : Nat} (hj : j ≠ 0) {calls : List VCall} (h : (cmach n P G).threads[j]? = some calls) : calls = List.replicate G ⟨1, []⟩ := by
  unfold cmach at h
  simp only [List.getElem?_map] at h
  obtain ⟨x, h1, h2⟩ := Option.map_eq_some_iff.1 h
  obtain ⟨h3, h4⟩ := List.getElem?_eq_some_iff.1 h1
  rw [List.getElem_range] at h4
  subst h4
  rw [List.length_range] at h3
  rw [← h2]
  unfold cth
  rw [if_neg hj, if_pos h3, if_neg (by omega)]
theorem cell_keeps {n : Nat} (h1 : 1 ≤ n) (h6 : n ≤ 6) (l : List Nat) (G : Nat) : PKeeps (cmach n 12 G) l (CI l n) where
  idle := by
    intro i s n' hi hD h hn
    refine ⟨h.len, h.t0n, h.t0s, h.ts, h.c1, fun k d hk ht he => ?_⟩
    obtain ⟨nx, ci, t, g1, g2⟩ := h.c2 k d hk ht he
    refine ⟨nx, ci, t, g1, ?_⟩
    rw [cnt_next hi (Nat.le_of_lt (hD.time k d hk).1), if_neg, Nat.add_zero]
    · exact g2
    · intro e
      rw [← e] at g1
      exact absurd (hn _ g1) (by simp)
  begin_ := by
    intro i s n' nx calls c hi hD h hn hc hcc
    refine ⟨h.len, fun nx' hn' => ?_, fun nx' ci t hn' => ?_, fun j nx' ci t hj hn' => ?_, fun k d e hk ht he => ?_, fun k d hk ht he => ?_⟩
    · rcases get_set hn' with ⟨_, e⟩ | ⟨_, e⟩
      · cases e
      · exact h.t0n nx' e
    · rcases get_set hn' with ⟨e0, e⟩ | ⟨_, e⟩
      · subst e0
        injection e with e2 e; injection e with e; injection e with e3 e4
        subst e2 e3 e4
        rw [cth_0] at hc
        injection hc with hc
        subst hc
        rw [List.getElem?_map] at hcc
        obtain ⟨q, q1, q2⟩ := Option.map_eq_some_iff.1 hcc
        obtain ⟨q3, q4⟩ := List.getElem?_eq_some_iff.1 q1
        rw [List.getElem_range] at q4
        rw [List.length_range] at q3
        subst q4 q2
        obtain ⟨g1, g2⟩ := h.t0n nx hn
        exact ⟨rfl, by omega, by omega, 0, by omega, by rw [g2]; rfl⟩
      · exact h.t0s nx' ci t e
    · rcases get_set hn' with ⟨e0, e⟩ | ⟨_, e⟩
      · subst e0
        injection e with e2 e; injection e with e; injection e with e3 e4
        subst e2 e3 e4
        have hca := cth_1 hj hc
        subst hca
        rw [List.getElem?_replicate] at hcc
        split at hcc
        · injection hcc with hcc; subst hcc
          exact ⟨rfl, GetS.begin h1 h6⟩
        · cases hcc
      · exact h.ts j nx' ci t hj e
    · rcases get_snoc hk with hk | ⟨_, rfl⟩
      · exact h.c1 k d e hk ht he
      · cases he
    · rcases get_snoc hk with hk | ⟨_, rfl⟩
      · obtain ⟨nx', ci, t, g1, g2⟩ := h.c2 k d hk ht he
        exact ⟨nx', ci, t, set_get g1 (fun e => hD.rest hn hk he (by rw [ht, e])) _, g2⟩
      · have ht : n' = 0 := ht
        subst ht
        exact ⟨nx + 1, c.code, _, set_at hn _, by rw [cnt_self]; exact Nat.zero_le _⟩
  cont := by
    intro i s n' nx ci t hi hD h hn hov
    by_cases e0 : n' = 0
    · subst e0
      obtain ⟨rfl, a2, a3, p, a4, a5⟩ := h.t0s nx ci t hn
      have hv : vstep ((cmach n 12 G).codes.getD 0 []) t s.words = cpst n (nx - 1) (p + 1) := by
        show vstep (cputCode n) t s.words = vstep (cputCode n) (cpst n (nx - 1) p).1 (cpst n (nx - 1) p).2
        rw [a5]
      have hpc := (cpok h1 h6 (show nx - 1 < 12 by omega) a4).2.2.1
      rw [a5] at hpc
      simp only at hpc
      have hp : p + 1 < n + 6 := by
        rcases Nat.lt_or_ge (p + 1) (n + 6) with h | h
        · exact h
        · have := (cpend h1 h6 (show nx - 1 < 12 by omega)).1
          rw [show n + 6 = p + 1 by omega, ← hv, hov] at this
          cases this
      obtain ⟨b1, b2, b3, b4⟩ := cpok h1 h6 (show nx - 1 < 12 by omega) hp
      rw [← hv] at b1 b2 b3 b4
      refine ⟨b4, fun nx' hn' => ?_, fun nx' ci t' hn' => ?_, fun j nx' ci t' hj hn' => ?_, h.c1, fun k d hk ht he => ?_⟩
      · rcases get_set hn' with ⟨_, e⟩ | ⟨e, _⟩
        · cases e
        · exact absurd rfl e
      · rcases get_set hn' with ⟨_, e⟩ | ⟨e, _⟩
        · injection e with e2 e; injection e with e; injection e with e3 e4
          subst e2 e3 e4
          exact ⟨rfl, a2, a3, p + 1, hp, by rw [← hv]⟩
        · exact absurd rfl e
      · rcases get_set hn' with ⟨e, _⟩ | ⟨_, e⟩
        · exact absurd e hj
        · exact h.ts j nx' ci t' hj e
      · obtain ⟨nx', ci', t2, g1, g2⟩ := h.c2 k d hk ht he
        rw [hn] at g1
        injection g1 with g1; injection g1 with _ g1; injection g1 with g1; injection g1 with _ g1
        subst g1
        refine ⟨nx, 0, _, set_at hn _, ?_⟩
        rw [cnt_next hi (Nat.le_of_lt_succ (hD.time k d hk).1), if_pos rfl, b3]
        omega
    · obtain ⟨rfl, g⟩ := h.ts n' nx ci t e0 hn
      have hv : vstep ((cmach n 12 G).codes.getD 1 []) t s.words = (gnext n t s.words, s.words) := gstep h1 h6 g h.len
      rw [hv] at hov ⊢
      refine ⟨h.len, fun nx' hn' => ?_, fun nx' ci t' hn' => ?_, fun j nx' ci t' hj hn' => ?_, h.c1, fun k d hk ht he => ?_⟩
      · rcases get_set hn' with ⟨e, _⟩ | ⟨_, e⟩
        · exact absurd e.symm e0
        · exact h.t0n nx' e
      · rcases get_set hn' with ⟨e, _⟩ | ⟨_, e⟩
        · exact absurd e.symm e0
        · exact h.t0s nx' ci t' e
      · rcases get_set hn' with ⟨_, e⟩ | ⟨_, e⟩
        · injection e with e2 e; injection e with e; injection e with e3 e4
          subst e2 e3 e4
          exact ⟨rfl, (gnext_keep h1 h6 s.words g hov).1⟩
        · exact h.ts j nx' ci t' hj e
      · obtain ⟨nx', ci', t2, g1, g2⟩ := h.c2 k d hk ht he
        exact ⟨nx', ci', t2, set_get g1 e0 _, by rw [cnt_next hi (Nat.le_of_lt_succ (hD.time k d hk).1), if_neg e0]; exact g2⟩
  fin_ := by
    intro i s n' nx ci t k0 d0 hi hD h hn hov hk0 ht0 hdc0 he0 htold
    by_cases e0 : n' = 0
    · subst e0
      obtain ⟨rfl, a2, a3, p, a4, a5⟩ := h.t0s nx ci t hn
      have hv : vstep ((cmach n 12 G).codes.getD 0 []) t s.words = cpst n (nx - 1) (p + 1) := by
        show vstep (cputCode n) t s.words = vstep (cputCode n) (cpst n (nx - 1) p).1 (cpst n (nx - 1) p).2
        rw [a5]
      have hpc := (cpok h1 h6 (show nx - 1 < 12 by omega) a4).2.2.1
      rw [a5] at hpc
      simp only at hpc
      have hp : p + 1 = n + 6 := by
        rcases Nat.lt_or_ge (p + 1) (n + 6) with h | h
        · have := (cpok h1 h6 (show nx - 1 < 12 by omega) h).1
          rw [← hv, hov] at this
          cases this
        · omega
      obtain ⟨b1, b2, b3⟩ := cpend h1 h6 (show nx - 1 < 12 by omega)
      rw [← hp, ← hv] at b1 b2 b3
      rw [b3, show nx - 1 + 1 = nx by omega]
      refine ⟨⟨cW0_len n nx, fun nx' hn' => ?_, fun nx' ci t' hn' => ?_, fun j nx' ci t' hj hn' => ?_, fun k d e hk ht he => ?_, fun k d hk ht he => ?_⟩, b2⟩
      · rcases get_set hn' with ⟨_, e⟩ | ⟨e, _⟩
        · injection e with e2 e
          subst e2
          exact ⟨a3, rfl⟩
        · exact absurd rfl e
      · rcases get_set hn' with ⟨_, e⟩ | ⟨e, _⟩
        · cases e
        · exact absurd rfl e
      · rcases get_set hn' with ⟨e, _⟩ | ⟨_, e⟩
        · exact absurd e hj
        · exact h.ts j nx' ci t' hj e
      · rcases get_set hk with ⟨rfl, rfl⟩ | ⟨hkk, hk⟩
        · simp only [Option.some.injEq] at he
          subst he
          obtain ⟨nx', ci', t2, g1, g2⟩ := h.c2 k d0 hk0 ht0 he0
          rw [hn] at g1
          injection g1 with g1; injection g1 with _ g1; injection g1 with g1; injection g1 with _ g1
          subst g1
          show cnt l d0.b (i + 1) 0 ≤ n + 6
          rw [cnt_next hi (Nat.le_of_lt_succ (hD.time k d0 hk0).1), if_pos rfl]
          omega
        · exact h.c1 k d e hk ht he
      · rcases get_set hk with ⟨rfl, rfl⟩ | ⟨hkk, hk⟩
        · cases he
        · exact absurd (hD.own hn hk hk0 ht ht0 he he0) hkk
    · obtain ⟨rfl, g⟩ := h.ts n' nx ci t e0 hn
      have hv : vstep ((cmach n 12 G).codes.getD 1 []) t s.words = (gnext n t s.words, s.words) := gstep h1 h6 g h.len
      rw [hv] at hov ⊢
      refine ⟨⟨h.len, fun nx' hn' => ?_, fun nx' ci t' hn' => ?_, fun j nx' ci t' hj hn' => ?_, fun k d e hk ht he => ?_, fun k d hk ht he => ?_⟩, (gnext_over s.words g hov).2⟩
      · rcases get_set hn' with ⟨e, _⟩ | ⟨_, e⟩
        · exact absurd e.symm e0
        · exact h.t0n nx' e
      · rcases get_set hn' with ⟨e, _⟩ | ⟨_, e⟩
        · exact absurd e.symm e0
        · exact h.t0s nx' ci t' e
      · rcases get_set hn' with ⟨_, e⟩ | ⟨_, e⟩
        · cases e
        · exact h.ts j nx' ci t' hj e
      · rcases get_set hk with ⟨rfl, rfl⟩ | ⟨hkk, hk⟩
        · exact absurd (ht0.symm.trans ht) e0
        · exact h.c1 k d e hk ht he
      · rcases get_set hk with ⟨rfl, rfl⟩ | ⟨hkk, hk⟩
        · cases he
        · obtain ⟨nx', ci', t2, g1, g2⟩ := h.c2 k d hk ht he
          exact ⟨nx', ci', t2, set_get g1 e0 _, by rw [cnt_next hi (Nat.le_of_lt_succ (hD.time k d hk).1), if_neg e0]; exact g2⟩
theorem CI.start (l : List Nat) (n G : Nat) : CI l n 0 (pinit (cmach n 12 G)).ths (cmach n 12 G).words [] := by
  have hz : ∀ (j nx ci : Nat) (t : Th), (pinit (cmach n 12 G)).ths[j]? ≠ some (⟨nx, some (ci, t)⟩ : PT) := by
    intro j nx ci t h
    unfold pinit at h
    simp only [List.getElem?_replicate] at h
    split at h
    · injection h with h; injection h with _ h; cases h
    · cases h
  refine ⟨by simp [cmach], fun nx h => ?_, fun nx ci t h => absurd h (hz _ _ _ _), fun j nx ci t _ h => absurd h (hz _ _ _ _), fun k d e h => by simp at h, fun k d h => by simp at h⟩
  unfold pinit at h
  simp only [List.getElem?_replicate] at h
  split at h
  · injection h with h; injection h with h
    subst h
    exact ⟨by omega, by simp [cmach, cW0]; rfl⟩
  · cases h
theorem mstep_oth (m : Mach) (s : PS) (i n j : Nat) (h : j ≠ n) : (pstep m i n s).ths[j]? = s.ths[j]? := by
  unfold pstep
  split
  · unfold pact
    split
    · rfl
    · split
      · show (s.ths.set n _)[j]? = _
        rw [List.getElem?_set, if_neg (fun e => h e.symm)]
      · show (s.ths.set n _)[j]? = _
        rw [List.getElem?_set, if_neg (fun e => h e.symm)]
  · rfl
theorem prun_other (m : Mach) (n : Nat) {j : Nat} (h : j ≠ n) : ∀ (k i : Nat) (s : PS), (prun m i (List.replicate k n) s).ths[j]? = s.ths[j]?
  | 0, _, _ => rfl
  | k + 1, i, s => by
    rw [List.replicate_succ, prun, prun_other m n h k (i + 1), mstep_oth m s i n j h]
def cU (d : Dg) : Bool := d.t == 0 && d.e.isNone
def cG (q : Nat) (d : Dg) : Bool := d.t == 1 && match d.e with | some e => decide (q ≤ e) | none => false
def cL (q : Nat) (d : Dg) : Bool := d.t == 1 && d.c == 7 && match d.e with | some e => decide (e < q) | none => false
/-- what the law says of the calls of a run -/
structure CellOk (q : Nat) (l : List Nat) (ds : List Dg) : Prop where
  put : ∀ (k : Nat) (d : Dg), ds[k]? = some d → d.t = 0 → cnt l d.b (match d.e with | none => l.length | some e => e + 1) d.t ≤ 80
  get : ds.any cU = false → ∀ (k : Nat) (d : Dg), ds[k]? = some d → d.t = 1 → d.e = none → ¬ d.b ≤ q
  some_ : ds.any cU = false → ds.any (cG q) = true ∨ ds.any (cL q) = true
theorem cell_ends {n : Nat} (h1 : 1 ≤ n) (h6 : n ≤ 6) (a : List Nat) :
    CellOk a.length (a ++ List.replicate 80 1) (doings (play (cmach n 12 8) (a ++ List.replicate 80 1)).evs) ∧ NoErr (play (cmach n 12 8) (a ++ List.replicate 80 1)).evs := by
  have hI := (cell_keeps h1 h6 (a ++ List.replicate 80 1) 8).play (CI.start _ n 8)
  have hA := (cell_keeps h1 h6 a 8).play (CI.start _ n 8)
  have hD := play_di (cmach n 12 8) (a ++ List.replicate 80 1)
  have hDa := play_di (cmach n 12 8) a
  obtain ⟨hI, hN⟩ := hI
  obtain ⟨hA, hNa⟩ := hA
  have hT : (cmach n 12 8).threads[1]? = some (List.replicate 8 ⟨1, []⟩) := rfl
  -- thread 0 is at rest, so the first word is even
  have hz : (doings (play (cmach n 12 8) (a ++ List.replicate 80 1)).evs).any cU = false → ∃ nx, (play (cmach n 12 8) a).words = cW0 n nx := by
    intro hu
    obtain ⟨p, hp⟩ : ∃ p, (play (cmach n 12 8) a).ths[0]? = some p := ⟨_, List.getElem?_eq_getElem (by rw [play_len]; show 0 < 4; decide)⟩
    obtain ⟨nx, cur⟩ := p
    cases cur with
    | none => exact ⟨nx, (hA.t0n nx hp).2⟩
    | some x =>
      exfalso
      have hp2 : (play (cmach n 12 8) (a ++ List.replicate 80 1)).ths[0]? = some ⟨nx, some x⟩ := by
        rw [play_split, prun_other _ 1 (by decide), hp]
      obtain ⟨k, d, k1, k2, k3, k4, k5⟩ := hD.cur hp2 rfl
      have : cU d = true := by unfold cU; rw [k2, k4]; rfl
      rw [List.any_eq_false] at hu
      exact hu d (List.mem_of_getElem? k1) this
  have hE : ∀ nx, Int.tmod (vget (cW0 n nx) 0) 2 = 0 := fun nx => by
    show Int.tmod (2 * (nx : Int)) 2 = 0
    exact Int.mul_tmod_right _ _
  have hP : ∀ W : List Int, W.length = n + 1 → Int.tmod (vget W 0) 2 = 0 → ∀ (nx : Nat) (calls : List VCall) (c : VCall) (ws : List Int), (cmach n 12 8).threads[1]? = some calls → calls[nx]? = some c → (fun (_ : Nat) ws => ws = W) nx ws → ∃ m t' ws', m ≤ 37 ∧ Ends ((cmach n 12 8).codes.getD c.code []) (vbegin ((cmach n 12 8).codes.getD c.code []).length c.args) ws m t' ws' ∧ t'.err = 0 ∧ (fun (_ : Nat) ws => ws = W) (nx + 1) ws' := by
    intro W hW hW2 nx calls c ws hc hcc hws
    obtain rfl : ws = W := hws
    rw [hT] at hc
    injection hc with hc
    subst hc
    rw [List.getElem?_replicate] at hcc
    split at hcc
    · injection hcc with hcc
      subst hcc
      obtain ⟨m, t', m1, m2, m3⟩ := GetS.ends h1 h6 hW hW2 (2 * n + 7) _ (GetS.begin h1 h6) (by omega)
      exact ⟨m, t', ws, by omega, m2, m3, rfl⟩
    · cases hcc
  have hM : ∀ W : List Int, (play (cmach n 12 8) a).words = W → Int.tmod (vget W 0) 2 = 0 → ∀ (nx ci : Nat) (t : Th), (play (cmach n 12 8) a).ths[1]? = some ⟨nx, some (ci, t)⟩ → ∃ m t' ws', m ≤ 37 ∧ Ends ((cmach n 12 8).codes.getD ci []) t (play (cmach n 12 8) a).words m t' ws' ∧ t'.err = 0 ∧ (fun (_ : Nat) ws => ws = W) nx ws' := by
    intro W hW hW2 nx ci t ht
    obtain ⟨rfl, g⟩ := hA.ts 1 nx ci t (by decide) ht
    obtain ⟨m, t', m1, m2, m3⟩ := GetS.ends h1 h6 hA.len (by rw [hW]; exact hW2) (2 * n + 7) _ g (by omega)
    exact ⟨m, t', _, by omega, m2, m3, hW⟩
  refine ⟨⟨fun k d hk ht => ?_, fun hu k d hk ht he hb => ?_, fun hu => ?_⟩, hN⟩
  · cases he : d.e with
    | some e =>
      have := hI.c1 k d e hk ht he
      rw [ht]
      simp only
      omega
    | none =>
      obtain ⟨nx, ci, t, g1, g2⟩ := hI.c2 k d hk ht he
      obtain ⟨_, g3, g4, p, g5, g6⟩ := hI.t0s nx ci t g1
      have := (cpok h1 h6 (show nx - 1 < 12 by omega) g5).2.2.1
      rw [g6] at this
      simp only at this
      rw [ht]
      simp only
      omega
  · obtain ⟨nx, hw⟩ := hz hu
    have hQ := (quiet_play (m := cmach n 12 8) (a := a) (q := 80) (τ := 1) (B := 37) (P := fun _ ws => ws = cW0 n nx) (hP _ (cW0_len n nx) (hE nx)) hNa (fun nx' _ => hw) (hM _ hw (hE nx))).1
    rw [List.length_append, List.length_replicate] at hD
    obtain ⟨e, e1, _⟩ := hQ.most hD rfl rfl hk ht (by omega) (by omega)
    rw [he] at e1; cases e1
  · obtain ⟨nx, hw⟩ := hz hu
    rcases quiet_some (m := cmach n 12 8) (a := a) (q := 80) (τ := 1) (B := 37) (P := fun _ ws => ws = cW0 n nx) hT (hP _ (cW0_len n nx) (hE nx)) (fun nx' _ => hw) (hM _ hw (hE nx)) (by decide) with ⟨k, d, e, g1, g2, g3, g4⟩ | ⟨nx', g1, g2⟩
    · left
      rw [List.any_eq_true]
      refine ⟨d, List.mem_of_getElem? g1, ?_⟩
      unfold cG
      rw [g2, g3]
      simp [g4]
    · right
      rw [List.length_replicate] at g2
      obtain ⟨k, d, k1, k2, k3⟩ := hDa.ths 1 _ g1 7 (by show 7 < nx'; omega)
      obtain ⟨p, p1, p2, p3⟩ := hDa.lt k d k1
      rw [k2, g1] at p1
      injection p1 with p1
      subst p1
      cases he : d.e with
      | none => exact absurd (p3.1 he).1 (by simp)
      | some e =>
        have ht := (hDa.time k d k1).2 e he
        have hpre := play_pre (cmach n 12 8) (a ++ List.replicate 80 1) a.length (by simp)
        rw [List.take_left] at hpre
        rw [List.any_eq_true]
        refine ⟨d, List.mem_of_getElem? (hpre.keep k1 he), ?_⟩
        unfold cL
        rw [k2, k3, he]
        simp [ht.2]
end Go.Proofs.YtabmkjokeeakdaaDoor
