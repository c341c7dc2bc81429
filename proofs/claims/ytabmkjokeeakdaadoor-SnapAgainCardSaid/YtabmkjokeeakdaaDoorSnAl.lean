/-
  Package snap: a Put is done in its steps, a Scan that is alone too; plain laws. Package snap: all runs of Puts and Scans; a Scan alone behind a schedule; plain laws. Package snap: one thread alone: a Scan tells what was put last; plain laws. Package snap: a Scan tells the words as they were once; the law SnapAgain's machine; plain laws. (Merged by merge.py.)
-/
import Derived.Test.YtabmkjokeeakdaaDoorSnapMach
import Derived.Test.YtabmkjokeeakdaaDoorQuiet
import Derived.Test.YtabmkjokeeakdaaDoorWStep
namespace Go.Proofs.YtabmkjokeeakdaaDoor
set_option linter.unusedVariables false

section
open Go.RowKit
theorem nv_ne (ws : List Int) {i j : Int} (x : Int) (h : i.toNat ≠ j.toNat) : vget (vset ws i x) j = vget ws j := by
  unfold vget vset
  rw [List.getD_eq_getElem?_getD, List.getD_eq_getElem?_getD, List.getElem?_set_ne h]
theorem nv_eq (ws : List Int) {i : Int} (x : Int) (h : i.toNat < ws.length) : vget (vset ws i x) i = x := by
  unfold vget vset
  rw [List.getD_eq_getElem?_getD, List.getElem?_set_self h]
  rfl
/-! ### the calls of the machine -/
theorem snst_args {n : Nat} (h1 : 1 ≤ n) (h4 : n ≤ 4) (cs : List Int) : ∀ i j, ∀ c ∈ (snst n cs i).2 j, ∃ p q : Nat, p < n ∧ 1 ≤ q ∧ q ≤ i ∧ c = ⟨0, [(p : Int), (q : Int)]⟩
  | 0, _, c, h => by cases h
  | i + 1, j, c, h => by
    unfold snst at h
    have up : (∃ p q : Nat, p < n ∧ 1 ≤ q ∧ q ≤ i ∧ c = ⟨0, [(p : Int), (q : Int)]⟩) → ∃ p q : Nat, p < n ∧ 1 ≤ q ∧ q ≤ i + 1 ∧ c = ⟨0, [(p : Int), (q : Int)]⟩ := fun ⟨p, q, a, b, c, d⟩ => ⟨p, q, a, b, by omega, d⟩
    split at h
    · exact up (snst_args h1 h4 cs i j c h)
    · have h : c ∈ upd (snst n cs i).2 (i % 2) _ j := h
      unfold upd at h
      split at h
      · rcases List.mem_append.1 h with h | h
        · exact up (snst_args h1 h4 cs i _ c h)
        · exact ⟨spart n cs i, (snst n cs i).1 (spart n cs i) + 1, (spart_lt h1 h4 cs i).1, by omega, Nat.succ_le_succ (snst_cnt n cs i _), List.mem_singleton.1 h⟩
      · exact up (snst_args h1 h4 cs i j c h)
/-- a machine of Puts and Scans: threads below T put, the others scan -/
structure SnM (m : Mach) (n T : Nat) : Prop where
  words : m.words.length = n
  put : m.codes.getD 0 [] = nputCode
  scan : m.codes.getD 1 [] = nscanCode n
  lo : ∀ j calls c, j < T → m.threads[j]? = some calls → c ∈ calls → ∃ p q : Nat, p < n ∧ c = ⟨0, [(p : Int), (q : Int)]⟩
  hi : ∀ j calls c, T ≤ j → m.threads[j]? = some calls → c ∈ calls → c = ⟨1, []⟩
theorem nth_lo (n : Nat) (cs : List Int) {j : Nat} (hj : j < 2) : (nmach n cs).threads[j]? = some ((snst n cs 24).2 j) := by
  rcases (show j = 0 ∨ j = 1 by omega) with rfl | rfl <;> rfl
theorem nth_hi (n : Nat) (cs : List Int) {j : Nat} (hj : 2 ≤ j) {calls : List VCall} (h : (nmach n cs).threads[j]? = some calls) : calls = List.replicate 10 ⟨1, []⟩ := by
  unfold nmach at h
  simp only [List.getElem?_map] at h
  obtain ⟨x, h1, h2⟩ := Option.map_eq_some_iff.1 h
  obtain ⟨h3, h4⟩ := List.getElem?_eq_some_iff.1 h1
  rw [List.getElem_range] at h4
  subst h4
  rw [List.length_range] at h3
  rw [← h2]
  unfold nth
  rw [if_neg (by omega), if_pos h3, if_neg (by omega)]
theorem nmach_snm {n : Nat} (h1 : 1 ≤ n) (h4 : n ≤ 4) (cs : List Int) : SnM (nmach n cs) n 2 where
  words := by simp [nmach]
  put := rfl
  scan := rfl
  lo := fun j calls c hj hc hm => by
    rw [nth_lo n cs hj] at hc
    injection hc with hc
    subst hc
    obtain ⟨p, q, a, _, _, b⟩ := snst_args h1 h4 cs 24 j c hm
    exact ⟨p, q, a, b⟩
  hi := fun j calls c hj hc hm => by
    rw [nth_hi n cs hj hc] at hm
    exact List.eq_of_mem_replicate hm
/-! ### a Put -/
structure NPut (n : Nat) (t : Th) : Prop where
  over : t.over = false
  err : t.err = 0
  pc : t.pc < 7
  regs : t.regs.length = 24
  part : 0 ≤ vget t.regs 0 ∧ vget t.regs 0 < (n : Int)
  wide : 1 ≤ t.pc → vget t.regs 2 = 1048576
theorem NPut.begin {n p q : Nat} (hp : p < n) : NPut n (vbegin nputCode.length [(p : Int), (q : Int)]) :=
  ⟨rfl, rfl, Nat.le_of_ble_eq_true rfl, rfl, ⟨by show (0 : Int) ≤ (p : Int); omega, by show (p : Int) < (n : Int); omega⟩, fun h => absurd h (by show ¬ 1 ≤ 0; decide)⟩
/-- what a step of a Put does -/
def pnext (t : Th) (ws : List Int) : Th × List Int :=
  let r := t.regs
  if t.pc = 0 then ({ t with regs := vset r 2 1048576, pc := 1 }, ws) else
  if t.pc = 1 then ({ t with regs := vset r 3 (vget ws (vget r 0)), pc := 2 }, ws) else
  if t.pc = 2 then ({ t with regs := vset r 4 (Int.tmod (vget r 3) 1048576), pc := 3 }, ws) else
  if t.pc = 3 then ({ t with regs := vset r 3 (wrap64 (vget r 3 - vget r 4)), pc := 4 }, ws) else
  if t.pc = 4 then ({ t with regs := vset r 3 (wrap64 (vget r 3 + 1048576)), pc := 5 }, ws) else
  if t.pc = 5 then ({ t with regs := vset r 3 (wrap64 (vget r 3 + vget r 1)), pc := 6 }, ws) else
  ({ t with pc := 7, over := true }, vset ws (vget r 0) (vget r 3))
theorem npstep {n : Nat} (h4 : n ≤ 4) {t : Th} {ws : List Int} (h : NPut n t) (hw : ws.length = n) : vstep nputCode t ws = pnext t ws := by
  obtain ⟨regs, pc, told, err, over⟩ := t
  obtain ⟨a1, a2, a3, a4, ⟨a5, a5'⟩, a6⟩ := h
  simp only at a1 a2 a3 a4 a5 a5' a6
  subst a1 a2
  have hwr : wrap64 (vget regs 0 + 0) = vget regs 0 := by unfold wrap64; omega
  have hb : ¬ (vget regs 0 < 0 ∨ (ws.length : Int) ≤ vget regs 0) := by omega
  unfold pnext
  simp only
  rcases (show pc = 0 ∨ pc = 1 ∨ pc = 2 ∨ pc = 3 ∨ pc = 4 ∨ pc = 5 ∨ pc = 6 by omega) with rfl | rfl | rfl | rfl | rfl | rfl | rfl
  · rw [wsp_over nputCode _ ws ⟨1, 2, 1048576, 0, 0⟩ rfl rfl]; rfl
  · rw [wsp_over nputCode _ ws ⟨13, 3, 0, 0, 0⟩ rfl rfl]
    simp only [vdo, vother, hwr, hb]
    rfl
  · rw [wsp_over nputCode _ ws ⟨7, 4, 3, 2, 0⟩ rfl rfl]
    simp [vdo, vquo, a6, nputCode]
  · rw [wsp_over nputCode _ ws ⟨4, 3, 3, 4, 0⟩ rfl rfl]; rfl
  · rw [wsp_over nputCode _ ws ⟨3, 3, 3, 2, 0⟩ rfl rfl]
    simp [vdo, a6, nputCode]
  · rw [wsp_over nputCode _ ws ⟨3, 3, 3, 1, 0⟩ rfl rfl]; rfl
  · rw [wsp_over nputCode _ ws ⟨14, 3, 0, 0, 0⟩ rfl rfl]
    simp only [vdo, vother, hwr, hb]
    rfl
theorem pnext_keep {n : Nat} {t : Th} {ws : List Int} (h : NPut n t) (ho : (pnext t ws).1.over = false) : NPut n (pnext t ws).1 ∧ (pnext t ws).1.pc = t.pc + 1 ∧ (pnext t ws).2 = ws := by
  obtain ⟨regs, pc, told, err, over⟩ := t
  obtain ⟨a1, a2, a3, a4, a5, a6⟩ := h
  simp only at a1 a2 a3 a4 a5 a6
  subst a1 a2
  have sl : ∀ (i x : Int), (vset regs i x).length = 24 := fun i x => by unfold vset; rw [List.length_set]; exact a4
  have k0 : ∀ (i x : Int), i.toNat ≠ 0 → 0 ≤ vget (vset regs i x) 0 ∧ vget (vset regs i x) 0 < (n : Int) := fun i x hi => by rw [nv_ne _ _ hi]; exact a5
  rcases (show pc = 0 ∨ pc = 1 ∨ pc = 2 ∨ pc = 3 ∨ pc = 4 ∨ pc = 5 ∨ pc = 6 by omega) with rfl | rfl | rfl | rfl | rfl | rfl | rfl
  · exact ⟨⟨rfl, rfl, Nat.le_of_ble_eq_true rfl, sl _ _, k0 _ _ (by decide), fun _ => nv_eq _ _ (by rw [a4]; decide)⟩, rfl, rfl⟩
  · exact ⟨⟨rfl, rfl, Nat.le_of_ble_eq_true rfl, sl _ _, k0 _ _ (by decide), fun _ => (nv_ne _ _ (by decide)).trans (a6 (by decide))⟩, rfl, rfl⟩
  · exact ⟨⟨rfl, rfl, Nat.le_of_ble_eq_true rfl, sl _ _, k0 _ _ (by decide), fun _ => (nv_ne _ _ (by decide)).trans (a6 (by decide))⟩, rfl, rfl⟩
  · exact ⟨⟨rfl, rfl, Nat.le_of_ble_eq_true rfl, sl _ _, k0 _ _ (by decide), fun _ => (nv_ne _ _ (by decide)).trans (a6 (by decide))⟩, rfl, rfl⟩
  · exact ⟨⟨rfl, rfl, Nat.le_of_ble_eq_true rfl, sl _ _, k0 _ _ (by decide), fun _ => (nv_ne _ _ (by decide)).trans (a6 (by decide))⟩, rfl, rfl⟩
  · exact ⟨⟨rfl, rfl, Nat.le_of_ble_eq_true rfl, sl _ _, k0 _ _ (by decide), fun _ => (nv_ne _ _ (by decide)).trans (a6 (by decide))⟩, rfl, rfl⟩
  · cases ho
theorem pnext_over {n : Nat} {t : Th} {ws : List Int} (h : NPut n t) (ho : (pnext t ws).1.over = true) : t.pc = 6 ∧ (pnext t ws).1.err = 0 ∧ (pnext t ws).1.told = t.told ∧ (pnext t ws).2 = vset ws (vget t.regs 0) (vget t.regs 3) := by
  obtain ⟨regs, pc, told, err, over⟩ := t
  obtain ⟨a1, a2, a3, a4, a5, a6⟩ := h
  simp only at a1 a2 a3 a4 a5 a6
  subst a1 a2
  rcases (show pc = 0 ∨ pc = 1 ∨ pc = 2 ∨ pc = 3 ∨ pc = 4 ∨ pc = 5 ∨ pc = 6 by omega) with rfl | rfl | rfl | rfl | rfl | rfl | rfl
  all_goals first | (cases ho; done) | exact ⟨rfl, rfl, rfl, rfl⟩
theorem pnext_len (t : Th) (ws : List Int) : (pnext t ws).2.length = ws.length := by
  unfold pnext
  simp only
  iterate 6 (split; rfl)
  unfold vset
  rw [List.length_set]
/-! ### a Scan -/
def ar (i : Nat) : Nat := if i = 0 then 1 else i + 2
def sop (n p : Nat) : Op5 := if p = 0 then ⟨1, 0, 1048576, 0, 0⟩ else if p < n + 1 then ⟨13, ar (p - 1), 2, (p - 1 : Nat), 0⟩ else if p < 4 * n + 1 then (if (p - (n + 1)) % 3 = 0 then ⟨13, (n : Int) + 2, 2, ((p - (n + 1)) / 3 : Nat), 0⟩ else if (p - (n + 1)) % 3 = 1 then ⟨8, (n : Int) + 3, ar ((p - (n + 1)) / 3), (n : Int) + 2, 0⟩ else ⟨12, (n : Int) + 3, 1, 0, 0⟩) else if (p - (4 * n + 1)) % 2 = 0 then ⟨7, (n : Int) + 4, ar ((p - (4 * n + 1)) / 2), 0, 0⟩ else ⟨16, (n : Int) + 4, 0, 0, 0⟩
theorem sop_all : ((List.range 4).all fun a => (List.range (6 * a + 7)).all fun p => decide ((nscanCode (a + 1))[p]? = some (sop (a + 1) p))) = true := by decide +kernel
theorem sop_at {n p : Nat} (h1 : 1 ≤ n) (h4 : n ≤ 4) (hp : p < 6 * n + 1) : (nscanCode n)[p]? = some (sop n p) := by
  have h := sop_all
  rw [List.all_eq_true] at h
  have h := h (n - 1) (by rw [List.mem_range]; omega)
  rw [List.all_eq_true] at h
  have h := h p (by rw [List.mem_range]; omega)
  rw [show n - 1 + 1 = n by omega] at h
  exact of_decide_eq_true h
structure NGet (n : Nat) (t : Th) : Prop where
  over : t.over = false
  err : t.err = 0
  pc : t.pc < 6 * n + 1
  regs : t.regs.length = 24
  base : vget t.regs 2 = 0
  wide : 1 ≤ t.pc → vget t.regs 0 = 1048576
  told : t.told.length ≤ t.pc - (4 * n + 1)
theorem NGet.begin {n : Nat} (h1 : 1 ≤ n) (h4 : n ≤ 4) : NGet n (vbegin (nscanCode n).length []) := by
  rcases (show n = 1 ∨ n = 2 ∨ n = 3 ∨ n = 4 by omega) with rfl | rfl | rfl | rfl <;>
    exact ⟨rfl, rfl, by decide, rfl, rfl, fun h => absurd h (by decide), Nat.zero_le _⟩
def snext (n : Nat) (t : Th) (ws : List Int) : Th :=
  let p := t.pc
  let r := t.regs
  if p = 0 then { t with regs := vset r 0 1048576, pc := 1 } else
  if p < n + 1 then { t with regs := vset r (ar (p - 1)) (vget ws ((p - 1 : Nat) : Int)), pc := p + 1 } else
  if p < 4 * n + 1 then
    (if (p - (n + 1)) % 3 = 0 then { t with regs := vset r ((n : Int) + 2) (vget ws (((p - (n + 1)) / 3 : Nat) : Int)), pc := p + 1 } else
     if (p - (n + 1)) % 3 = 1 then { t with regs := vset r ((n : Int) + 3) (vflag (decide (vget r (ar ((p - (n + 1)) / 3)) = vget r ((n : Int) + 2)))), pc := p + 1 } else
     { t with pc := if vget r ((n : Int) + 3) = 0 then 1 else p + 1 }) else
  if (p - (4 * n + 1)) % 2 = 0 then { t with regs := vset r ((n : Int) + 4) (Int.tmod (vget r (ar ((p - (4 * n + 1)) / 2))) 1048576), pc := p + 1 } else
  { t with told := t.told ++ [vget r ((n : Int) + 4)], pc := p + 1, over := decide (p + 1 = 6 * n + 1) }
/-! ### operations, one step each -/
theorem vn_set {code : List Op5} {t t' : Th} {ws : List Int} {a b c d : Int} (h0 : t.over = false) (h1 : code[t.pc]? = some ⟨1, a, b, c, d⟩) (ht : t' = { t with regs := vset t.regs a b, pc := t.pc + 1, over := decide (t.pc + 1 = code.length) }) : vstep code t ws = (t', ws) := by
  rw [wsp_over code t ws _ h0 h1, ht]
  have e : vdo ⟨1, a, b, c, d⟩ { t with pc := t.pc + 1 } ws = ({ t with pc := t.pc + 1, regs := vset t.regs a b }, ws) := rfl
  rw [e]
  simp only [h0, Bool.false_or]
theorem vn_rem {code : List Op5} {t t' : Th} {ws : List Int} {a b c d : Int} (h0 : t.over = false) (h1 : code[t.pc]? = some ⟨7, a, b, c, d⟩) (hz : vget t.regs c ≠ 0) (ht : t' = { t with regs := vset t.regs a (Int.tmod (vget t.regs b) (vget t.regs c)), pc := t.pc + 1, over := decide (t.pc + 1 = code.length) }) : vstep code t ws = (t', ws) := by
  rw [wsp_over code t ws _ h0 h1, ht]
  have e : vdo ⟨7, a, b, c, d⟩ { t with pc := t.pc + 1 } ws = ({ t with pc := t.pc + 1, regs := vset t.regs a (vquo (vget t.regs b) (vget t.regs c) true) }, ws) := rfl
  have e2 : vquo (vget t.regs b) (vget t.regs c) true = Int.tmod (vget t.regs b) (vget t.regs c) := by unfold vquo; rw [if_neg hz, if_pos rfl]
  rw [e, e2]
  simp only [h0, Bool.false_or]
theorem vn_same {code : List Op5} {t t' : Th} {ws : List Int} {a b c d : Int} (h0 : t.over = false) (h1 : code[t.pc]? = some ⟨8, a, b, c, d⟩) (ht : t' = { t with regs := vset t.regs a (vflag (decide (vget t.regs b = vget t.regs c))), pc := t.pc + 1, over := decide (t.pc + 1 = code.length) }) : vstep code t ws = (t', ws) := by
  rw [wsp_over code t ws _ h0 h1, ht]
  have e : vdo ⟨8, a, b, c, d⟩ { t with pc := t.pc + 1 } ws = ({ t with pc := t.pc + 1, regs := vset t.regs a (vflag (decide (vget t.regs b = vget t.regs c))) }, ws) := rfl
  rw [e]
  simp only [h0, Bool.false_or]
theorem vn_unless {code : List Op5} {t t' : Th} {ws : List Int} {a b c d : Int} (h0 : t.over = false) (h1 : code[t.pc]? = some ⟨12, a, b, c, d⟩) (ht : t' = { t with pc := if vget t.regs a = 0 then b.toNat else t.pc + 1, over := decide ((if vget t.regs a = 0 then b.toNat else t.pc + 1) = code.length) }) : vstep code t ws = (t', ws) := by
  rw [wsp_over code t ws _ h0 h1, ht]
  have e : vdo ⟨12, a, b, c, d⟩ { t with pc := t.pc + 1 } ws = (if vget t.regs a = 0 then { t with pc := b.toNat } else { t with pc := t.pc + 1 }, ws) := rfl
  rw [e]
  split <;> simp only [h0, Bool.false_or]
theorem vn_tell {code : List Op5} {t t' : Th} {ws : List Int} {a b c d : Int} (h0 : t.over = false) (h1 : code[t.pc]? = some ⟨16, a, b, c, d⟩) (hl : t.told.length ≠ 200) (ht : t' = { t with told := t.told ++ [vget t.regs a], pc := t.pc + 1, over := decide (t.pc + 1 = code.length) }) : vstep code t ws = (t', ws) := by
  rw [wsp_over code t ws _ h0 h1, ht]
  have e : vdo ⟨16, a, b, c, d⟩ { t with pc := t.pc + 1 } ws = (if t.told.length = 200 then { t with pc := t.pc + 1, err := 8, over := true } else { t with pc := t.pc + 1, told := t.told ++ [vget t.regs a] }, ws) := rfl
  rw [e, if_neg hl]
  simp only [h0, Bool.false_or]
theorem nsstep {n : Nat} (h1 : 1 ≤ n) (h4 : n ≤ 4) {t : Th} {ws : List Int} (h : NGet n t) (hw : ws.length = n) : vstep (nscanCode n) t ws = (snext n t ws, ws) := by
  obtain ⟨regs, pc, told, err, over⟩ := t
  obtain ⟨a1, a2, a3, a4, a5, a6, a7⟩ := h
  simp only at a1 a2 a3 a4 a5 a6 a7
  subst a1 a2
  have hlen := nscan_len h1 h4
  have wz : ∀ x : Int, 0 ≤ x → x ≤ 20 → wrap64 (0 + x) = x := fun x h0 h1 => by unfold wrap64; omega
  have ho := sop_at h1 h4 a3
  unfold sop at ho
  unfold snext
  simp only
  by_cases e0 : pc = 0
  · rw [if_pos e0] at ho ⊢
    refine vn_set (t := ⟨regs, pc, told, 0, false⟩) rfl ho ?_
    rw [hlen, decide_eq_false (by simp only; omega), e0]
  rw [if_neg e0] at ho ⊢
  by_cases e1 : pc < n + 1
  · rw [if_pos e1] at ho ⊢
    refine vs_load (t := ⟨regs, pc, told, 0, false⟩) (ad := ((pc - 1 : Nat) : Int)) rfl ho (by simp only; rw [a5]; exact wz _ (by omega) (by omega)) (by omega) (by omega) ?_
    rw [hlen, decide_eq_false (by simp only; omega)]
  rw [if_neg e1] at ho ⊢
  by_cases e2 : pc < 4 * n + 1
  · rw [if_pos e2] at ho ⊢
    by_cases e3 : (pc - (n + 1)) % 3 = 0
    · rw [if_pos e3] at ho ⊢
      refine vs_load (t := ⟨regs, pc, told, 0, false⟩) (ad := (((pc - (n + 1)) / 3 : Nat) : Int)) rfl ho (by simp only; rw [a5]; exact wz _ (by omega) (by omega)) (by omega) (by omega) ?_
      rw [hlen, decide_eq_false (by simp only; omega)]
    rw [if_neg e3] at ho ⊢
    by_cases e4 : (pc - (n + 1)) % 3 = 1
    · rw [if_pos e4] at ho ⊢
      refine vn_same (t := ⟨regs, pc, told, 0, false⟩) rfl ho ?_
      have hd : decide (pc + 1 = 6 * n + 1) = false := decide_eq_false (by omega)
      rw [hlen, hd]
    rw [if_neg e4] at ho ⊢
    refine vn_unless (t := ⟨regs, pc, told, 0, false⟩) rfl ho ?_
    rw [hlen, decide_eq_false (by simp only; split <;> omega)]
    rfl
  rw [if_neg e2] at ho ⊢
  by_cases e3 : (pc - (4 * n + 1)) % 2 = 0
  · rw [if_pos e3] at ho ⊢
    refine vn_rem (t := ⟨regs, pc, told, 0, false⟩) rfl ho (by simp only; rw [a6 (by omega)]; decide) ?_
    rw [hlen, decide_eq_false (by simp only; omega), show vget (Th.mk regs pc told 0 false).regs 0 = 1048576 from a6 (by omega)]
  rw [if_neg e3] at ho ⊢
  refine vn_tell (t := ⟨regs, pc, told, 0, false⟩) rfl ho (by simp only; omega) ?_
  rw [hlen]
theorem snext_keep {n : Nat} (h1 : 1 ≤ n) (h4 : n ≤ 4) {t : Th} (ws : List Int) (h : NGet n t) (ho : (snext n t ws).over = false) : NGet n (snext n t ws) ∧ ((snext n t ws).pc = t.pc + 1 ∨ (snext n t ws).pc = 1) := by
  obtain ⟨regs, pc, told, err, over⟩ := t
  obtain ⟨a1, a2, a3, a4, a5, a6, a7⟩ := h
  simp only at a1 a2 a3 a4 a5 a6 a7
  subst a1 a2
  have sl : ∀ (i x : Int), (vset regs i x).length = 24 := fun i x => by unfold vset; rw [List.length_set]; exact a4
  have hr : ∀ (i : Int) x, i.toNat ≠ 2 → i.toNat ≠ 0 → 1 ≤ pc → vget (vset regs i x) 2 = 0 ∧ (1 ≤ pc + 1 → vget (vset regs i x) 0 = 1048576) := fun i x h2 h0 hp => ⟨(nv_ne _ _ h2).trans a5, fun _ => (nv_ne _ _ h0).trans (a6 hp)⟩
  have har : ∀ i, (ar i : Int).toNat ≠ 2 ∧ (ar i : Int).toNat ≠ 0 := fun i => by unfold ar; split <;> omega
  unfold snext at ho ⊢
  simp only at ho ⊢
  by_cases e0 : pc = 0
  · rw [if_pos e0]
    exact ⟨⟨rfl, rfl, by show 1 < _; omega, sl _ _, (nv_ne _ _ (by decide)).trans a5, fun _ => nv_eq _ _ (by rw [a4]; decide), by simp only; omega⟩, .inr rfl⟩
  rw [if_neg e0] at ho ⊢
  by_cases e1 : pc < n + 1
  · rw [if_pos e1]
    obtain ⟨q1, q2⟩ := hr (ar (pc - 1)) (vget ws ((pc - 1 : Nat) : Int)) (har _).1 (har _).2 (by omega)
    exact ⟨⟨rfl, rfl, by show pc + 1 < _; omega, sl _ _, q1, q2, by simp only; omega⟩, .inl rfl⟩
  rw [if_neg e1] at ho ⊢
  by_cases e2 : pc < 4 * n + 1
  · rw [if_pos e2] at ho ⊢
    by_cases e3 : (pc - (n + 1)) % 3 = 0
    · rw [if_pos e3]
      obtain ⟨q1, q2⟩ := hr ((n : Int) + 2) (vget ws (((pc - (n + 1)) / 3 : Nat) : Int)) (by omega) (by omega) (by omega)
      exact ⟨⟨rfl, rfl, by show pc + 1 < _; omega, sl _ _, q1, q2, by simp only; omega⟩, .inl rfl⟩
    rw [if_neg e3] at ho ⊢
    by_cases e4 : (pc - (n + 1)) % 3 = 1
    · rw [if_pos e4]
      obtain ⟨q1, q2⟩ := hr ((n : Int) + 3) (vflag (decide (vget regs (ar ((pc - (n + 1)) / 3)) = vget regs ((n : Int) + 2)))) (by omega) (by omega) (by omega)
      exact ⟨⟨rfl, rfl, by show pc + 1 < _; omega, sl _ _, q1, q2, by simp only; omega⟩, .inl rfl⟩
    rw [if_neg e4] at ho ⊢
    by_cases hz : vget regs ((n : Int) + 3) = 0
    · rw [if_pos hz]; exact ⟨⟨rfl, rfl, by show 1 < _; omega, a4, a5, fun _ => a6 (by omega), by simp only; omega⟩, .inr rfl⟩
    · rw [if_neg hz]; exact ⟨⟨rfl, rfl, by show pc + 1 < _; omega, a4, a5, fun _ => a6 (by omega), by simp only; omega⟩, .inl rfl⟩
  rw [if_neg e2] at ho ⊢
  by_cases e3 : (pc - (4 * n + 1)) % 2 = 0
  · rw [if_pos e3]
    obtain ⟨q1, q2⟩ := hr ((n : Int) + 4) (Int.tmod (vget regs (ar ((pc - (4 * n + 1)) / 2))) 1048576) (by omega) (by omega) (by omega)
    exact ⟨⟨rfl, rfl, by show pc + 1 < _; omega, sl _ _, q1, q2, by simp only; omega⟩, .inl rfl⟩
  rw [if_neg e3] at ho ⊢
  have hp : ¬ pc + 1 = 6 * n + 1 := of_decide_eq_false ho
  exact ⟨⟨ho, rfl, by show pc + 1 < _; omega, a4, a5, fun _ => a6 (by omega), by simp only [List.length_append, List.length_cons, List.length_nil]; omega⟩, .inl rfl⟩
theorem snext_over {n : Nat} {t : Th} (ws : List Int) (h : NGet n t) (ho : (snext n t ws).over = true) : t.pc + 1 = 6 * n + 1 ∧ (snext n t ws).err = 0 := by
  obtain ⟨regs, pc, told, err, over⟩ := t
  obtain ⟨a1, a2, a3, a4, a5, a6, a7⟩ := h
  simp only at a1 a2 a3 a4 a5 a6 a7
  subst a1 a2
  unfold snext at ho ⊢
  simp only at ho ⊢
  by_cases e0 : pc = 0
  · rw [if_pos e0] at ho; cases ho
  rw [if_neg e0] at ho ⊢
  by_cases e1 : pc < n + 1
  · rw [if_pos e1] at ho; cases ho
  rw [if_neg e1] at ho ⊢
  by_cases e2 : pc < 4 * n + 1
  · rw [if_pos e2] at ho
    by_cases e3 : (pc - (n + 1)) % 3 = 0
    · rw [if_pos e3] at ho; cases ho
    rw [if_neg e3] at ho
    by_cases e4 : (pc - (n + 1)) % 3 = 1
    · rw [if_pos e4] at ho; cases ho
    rw [if_neg e4] at ho; cases ho
  rw [if_neg e2] at ho ⊢
  by_cases e3 : (pc - (4 * n + 1)) % 2 = 0
  · rw [if_pos e3] at ho; cases ho
  rw [if_neg e3] at ho ⊢
  exact ⟨of_decide_eq_true ho, rfl⟩
/-- a Scan that will not go back -/
structure SGd (n : Nat) (ws : List Int) (t : Th) : Prop where
  get : NGet n t
  p1 : 1 ≤ t.pc
  a : ∀ i : Nat, i < n → i + 1 < t.pc → vget t.regs (ar i) = vget ws i
  b : n + 1 ≤ t.pc → t.pc < 4 * n + 1 → (t.pc - (n + 1)) % 3 = 1 → vget t.regs ((n : Int) + 2) = vget ws (((t.pc - (n + 1)) / 3 : Nat) : Int)
  s : n + 1 ≤ t.pc → t.pc < 4 * n + 1 → (t.pc - (n + 1)) % 3 = 2 → vget t.regs ((n : Int) + 3) = 1
theorem SGd.next {n : Nat} (h1 : 1 ≤ n) (h4 : n ≤ 4) {t : Th} {ws : List Int} (h : SGd n ws t) (ho : (snext n t ws).over = false) : SGd n ws (snext n t ws) ∧ (snext n t ws).pc = t.pc + 1 := by
  have hk := (snext_keep h1 h4 ws h.get ho).1
  obtain ⟨regs, pc, told, err, over⟩ := t
  obtain ⟨⟨a1, a2, a3, a4, a5, a6, a7⟩, b1, b2, b3, b4⟩ := h
  simp only at a1 a2 a3 a4 a5 a6 a7 b1 b2 b3 b4
  subst a1 a2
  have har : ∀ i j : Nat, i ≠ j → (ar j : Int).toNat ≠ (ar i : Int).toNat := fun i j h => by unfold ar; split <;> split <;> omega
  have hal : ∀ i : Nat, i < n → (ar i : Int).toNat < 24 ∧ (ar i : Int).toNat < n + 2 := fun i h => by unfold ar; split <;> omega
  revert hk
  unfold snext
  simp only
  rw [if_neg (by omega)]
  by_cases e1 : pc < n + 1
  · rw [if_pos e1]; intro hk
    refine ⟨⟨hk, by simp only; omega, fun i hi hp => ?_, fun e3 e4 e5 => ?_, fun e3 e4 e5 => ?_⟩, rfl⟩
    · simp only at hp ⊢
      by_cases e : i = pc - 1
      · subst e
        exact nv_eq _ _ (by rw [a4]; exact (hal _ hi).1)
      · rw [nv_ne _ _ (har i (pc - 1) e)]
        exact b2 i hi (by omega)
    · simp only at e3 e4 e5; omega
    · simp only at e3 e4 e5; omega
  rw [if_neg e1]
  by_cases e2 : pc < 4 * n + 1
  · rw [if_pos e2]
    by_cases e3 : (pc - (n + 1)) % 3 = 0
    · rw [if_pos e3]; intro hk
      refine ⟨⟨hk, by simp only; omega, fun i hi hp => ?_, fun e4 e5 e6 => ?_, fun e4 e5 e6 => ?_⟩, rfl⟩
      · simp only at hp ⊢
        rw [nv_ne _ _ (by have := (hal i hi).2; omega)]
        exact b2 i hi (by omega)
      · simp only at e4 e5 e6 ⊢
        rw [show (pc + 1 - (n + 1)) / 3 = (pc - (n + 1)) / 3 by omega]
        exact nv_eq _ _ (by rw [a4]; omega)
      · simp only at e4 e5 e6; omega
    rw [if_neg e3]
    by_cases e4 : (pc - (n + 1)) % 3 = 1
    · rw [if_pos e4]; intro hk
      refine ⟨⟨hk, by simp only; omega, fun i hi hp => ?_, fun e5 e6 e7 => ?_, fun e5 e6 e7 => ?_⟩, rfl⟩
      · simp only at hp ⊢
        rw [nv_ne _ _ (by have := (hal i hi).2; omega)]
        exact b2 i hi (by omega)
      · simp only at e5 e6 e7; omega
      · simp only at e5 e6 e7 ⊢
        rw [b2 ((pc - (n + 1)) / 3) (by omega) (by omega), b3 (by omega) e2 e4, decide_eq_true rfl]
        exact nv_eq _ _ (by rw [a4]; omega)
    rw [if_neg e4, if_neg (by rw [b4 (by omega) e2 (by omega)]; decide)]; intro hk
    refine ⟨⟨hk, by simp only; omega, fun i hi hp => b2 i hi (by simp only at hp; omega), fun e5 e6 e7 => ?_, fun e5 e6 e7 => ?_⟩, rfl⟩
    · simp only at e5 e6 e7; omega
    · simp only at e5 e6 e7; omega
  rw [if_neg e2]
  by_cases e3 : (pc - (4 * n + 1)) % 2 = 0
  · rw [if_pos e3]; intro hk
    refine ⟨⟨hk, by simp only; omega, fun i hi hp => ?_, fun e5 e6 e7 => ?_, fun e5 e6 e7 => ?_⟩, rfl⟩
    · simp only at hp ⊢
      rw [nv_ne _ _ (by have := (hal i hi).2; omega)]
      exact b2 i hi (by omega)
    · simp only at e5 e6 e7; omega
    · simp only at e5 e6 e7; omega
  rw [if_neg e3]; intro hk
  refine ⟨⟨hk, by simp only; omega, fun i hi hp => b2 i hi (by simp only at hp; omega), fun e5 e6 e7 => ?_, fun e5 e6 e7 => ?_⟩, rfl⟩
  · simp only at e5 e6 e7; omega
  · simp only at e5 e6 e7; omega
theorem SGd.ends {n : Nat} (h1 : 1 ≤ n) (h4 : n ≤ 4) {ws : List Int} (hw : ws.length = n) : ∀ (q : Nat) (t : Th), SGd n ws t → 6 * n + 1 ≤ t.pc + q → ∃ m t', m ≤ q ∧ Ends (nscanCode n) t ws m t' ws ∧ t'.err = 0
  | 0, t, h, hq => by have := h.get.pc; omega
  | q + 1, t, h, hq => by
    have hs := nsstep h1 h4 h.get hw
    cases ho : (snext n t ws).over with
    | true => exact ⟨1, _, by omega, .last hs ho, (snext_over ws h.get ho).2⟩
    | false =>
      obtain ⟨g1, g2⟩ := h.next h1 h4 ho
      obtain ⟨m, t', m1, m2, m3⟩ := SGd.ends h1 h4 hw q _ g1 (by omega)
      exact ⟨m + 1, t', by omega, .more hs ho m2, m3⟩
theorem NGet.ends {n : Nat} (h1 : 1 ≤ n) (h4 : n ≤ 4) {ws : List Int} (hw : ws.length = n) : ∀ (q : Nat) (t : Th), NGet n t → 6 * n + 1 ≤ t.pc + q → ∃ m t', m ≤ q + 6 * n ∧ Ends (nscanCode n) t ws m t' ws ∧ t'.err = 0
  | 0, t, h, hq => by have := h.pc; omega
  | q + 1, t, h, hq => by
    have hs := nsstep h1 h4 h hw
    cases ho : (snext n t ws).over with
    | true => exact ⟨1, _, by omega, .last hs ho, (snext_over ws h ho).2⟩
    | false =>
      obtain ⟨g1, g2⟩ := snext_keep h1 h4 ws h ho
      rcases g2 with g2 | g2
      · obtain ⟨m, t', m1, m2, m3⟩ := NGet.ends h1 h4 hw q _ g1 (by omega)
        exact ⟨m + 1, t', by omega, .more hs ho m2, m3⟩
      · obtain ⟨m, t', m1, m2, m3⟩ := SGd.ends h1 h4 hw (6 * n) (snext n t ws) ⟨g1, by omega, fun i _ h => absurd h (by omega), fun h => absurd h (by omega), fun h => absurd h (by omega)⟩ (by omega)
        exact ⟨m + 1, t', by omega, .more hs ho m2, m3⟩
end

section
open Go.RowKit
structure SI (l : List Nat) (n T : Nat) (i : Nat) (ths : List PT) (ws : List Int) (ds : List Dg) : Prop where
  len : ws.length = n
  put : ∀ j nx ci t, j < T → ths[j]? = some ⟨nx, some (ci, t)⟩ → ci = 0 ∧ NPut n t
  get : ∀ j nx ci t, T ≤ j → ths[j]? = some ⟨nx, some (ci, t)⟩ → ci = 1 ∧ NGet n t
  c1 : ∀ (k : Nat) (d : Dg) (e : Nat), ds[k]? = some d → d.t < T → d.e = some e → cnt l d.b (e + 1) d.t ≤ 7
  c2 : ∀ (k : Nat) (d : Dg), ds[k]? = some d → d.t < T → d.e = none → ∃ (nx ci : Nat) (t : Th), ths[d.t]? = some ⟨nx, some (ci, t)⟩ ∧ cnt l d.b i d.t ≤ t.pc
theorem snap_keeps {m : Mach} {n T : Nat} (h1 : 1 ≤ n) (h4 : n ≤ 4) (hM : SnM m n T) (l : List Nat) : PKeeps m l (SI l n T) where
  idle := by
    intro i s n' hi hD h hn
    refine ⟨h.len, h.put, h.get, h.c1, fun k d hk ht he => ?_⟩
    obtain ⟨nx, ci, t, g1, g2⟩ := h.c2 k d hk ht he
    refine ⟨nx, ci, t, g1, ?_⟩
    rw [cnt_next hi (Nat.le_of_lt (hD.time k d hk).1), if_neg, Nat.add_zero]
    · exact g2
    · intro e
      rw [← e] at g1
      exact absurd (hn _ g1) (by simp)
  begin_ := by
    intro i s n' nx calls c hi hD h hn hc hcc
    have hmem := List.mem_of_getElem? hcc
    refine ⟨h.len, fun j nx' ci t hj hn' => ?_, fun j nx' ci t hj hn' => ?_, fun k d e hk ht he => ?_, fun k d hk ht he => ?_⟩
    · rcases get_set hn' with ⟨e0, e⟩ | ⟨_, e⟩
      · subst e0
        injection e with e2 e; injection e with e; injection e with e3 e4
        subst e2 e3 e4
        obtain ⟨p, q, hp, rfl⟩ := hM.lo j calls c hj hc hmem
        refine ⟨rfl, ?_⟩
        show NPut n (vbegin (m.codes.getD 0 []).length [(p : Int), (q : Int)])
        rw [hM.put]
        exact NPut.begin hp
      · exact h.put j nx' ci t hj e
    · rcases get_set hn' with ⟨e0, e⟩ | ⟨_, e⟩
      · subst e0
        injection e with e2 e; injection e with e; injection e with e3 e4
        subst e2 e3 e4
        obtain rfl := hM.hi j calls c hj hc hmem
        refine ⟨rfl, ?_⟩
        show NGet n (vbegin (m.codes.getD 1 []).length [])
        rw [hM.scan]
        exact NGet.begin h1 h4
      · exact h.get j nx' ci t hj e
    · rcases get_snoc hk with hk | ⟨_, rfl⟩
      · exact h.c1 k d e hk ht he
      · cases he
    · rcases get_snoc hk with hk | ⟨_, rfl⟩
      · obtain ⟨nx', ci, t, g1, g2⟩ := h.c2 k d hk ht he
        exact ⟨nx', ci, t, set_get g1 (fun e => hD.rest hn hk he e.symm) _, g2⟩
      · exact ⟨nx + 1, c.code, _, set_at hn _, by rw [cnt_self]; exact Nat.zero_le _⟩
  cont := by
    intro i s n' nx ci t hi hD h hn hov
    by_cases e0 : n' < T
    · obtain ⟨rfl, g⟩ := h.put n' nx ci t e0 hn
      have hv : vstep (m.codes.getD 0 []) t s.words = pnext t s.words := by rw [hM.put]; exact npstep h4 g h.len
      rw [hv] at hov ⊢
      obtain ⟨g1, g2, g3⟩ := pnext_keep g hov
      refine ⟨by rw [pnext_len]; exact h.len, fun j nx' ci t' hj hn' => ?_, fun j nx' ci t' hj hn' => ?_, h.c1, fun k d hk ht he => ?_⟩
      · rcases get_set hn' with ⟨_, e⟩ | ⟨_, e⟩
        · injection e with e2 e; injection e with e; injection e with e3 e4
          subst e2 e3 e4
          exact ⟨rfl, g1⟩
        · exact h.put j nx' ci t' hj e
      · rcases get_set hn' with ⟨e, _⟩ | ⟨_, e⟩
        · omega
        · exact h.get j nx' ci t' hj e
      · obtain ⟨nx', ci', t2, g4, g5⟩ := h.c2 k d hk ht he
        have hb := Nat.le_of_lt_succ (hD.time k d hk).1
        by_cases e : d.t = n'
        · rw [e, hn] at g4
          injection g4 with g4; injection g4 with _ g4; injection g4 with g4; injection g4 with _ g4
          subst g4
          refine ⟨nx, 0, _, by rw [e]; exact set_at hn _, ?_⟩
          rw [cnt_next hi hb, if_pos e.symm, g2]
          omega
        · exact ⟨nx', ci', t2, set_get g4 (fun e' => e e'.symm) _, by rw [cnt_next hi hb, if_neg (fun e' => e e'.symm)]; exact g5⟩
    · obtain ⟨rfl, g⟩ := h.get n' nx ci t (by omega) hn
      have hv : vstep (m.codes.getD 1 []) t s.words = (snext n t s.words, s.words) := by rw [hM.scan]; exact nsstep h1 h4 g h.len
      rw [hv] at hov ⊢
      refine ⟨h.len, fun j nx' ci t' hj hn' => ?_, fun j nx' ci t' hj hn' => ?_, h.c1, fun k d hk ht he => ?_⟩
      · rcases get_set hn' with ⟨e, _⟩ | ⟨_, e⟩
        · omega
        · exact h.put j nx' ci t' hj e
      · rcases get_set hn' with ⟨_, e⟩ | ⟨_, e⟩
        · injection e with e2 e; injection e with e; injection e with e3 e4
          subst e2 e3 e4
          exact ⟨rfl, (snext_keep h1 h4 s.words g hov).1⟩
        · exact h.get j nx' ci t' hj e
      · obtain ⟨nx', ci', t2, g4, g5⟩ := h.c2 k d hk ht he
        have hne : n' ≠ d.t := by omega
        exact ⟨nx', ci', t2, set_get g4 hne _, by rw [cnt_next hi (Nat.le_of_lt_succ (hD.time k d hk).1), if_neg hne]; exact g5⟩
  fin_ := by
    intro i s n' nx ci t k0 d0 hi hD h hn hov hk0 ht0 hdc0 he0 htold
    by_cases e0 : n' < T
    · obtain ⟨rfl, g⟩ := h.put n' nx ci t e0 hn
      have hv : vstep (m.codes.getD 0 []) t s.words = pnext t s.words := by rw [hM.put]; exact npstep h4 g h.len
      rw [hv] at hov ⊢
      obtain ⟨g1, g2, _⟩ := pnext_over g hov
      refine ⟨⟨by rw [pnext_len]; exact h.len, fun j nx' ci t' hj hn' => ?_, fun j nx' ci t' hj hn' => ?_, fun k d e hk ht he => ?_, fun k d hk ht he => ?_⟩, g2⟩
      · rcases get_set hn' with ⟨_, e⟩ | ⟨_, e⟩
        · cases e
        · exact h.put j nx' ci t' hj e
      · rcases get_set hn' with ⟨_, e⟩ | ⟨_, e⟩
        · cases e
        · exact h.get j nx' ci t' hj e
      · rcases get_set hk with ⟨rfl, rfl⟩ | ⟨_, hk2⟩
        · simp only [Option.some.injEq] at he
          subst he
          obtain ⟨nx', ci', t2, g4, g5⟩ := h.c2 k d0 hk0 ht he0
          rw [ht0, hn] at g4
          injection g4 with g4; injection g4 with _ g4; injection g4 with g4; injection g4 with _ g4
          subst g4
          show cnt l d0.b (i + 1) d0.t ≤ 7
          rw [cnt_next hi (Nat.le_of_lt_succ (hD.time k d0 hk0).1), if_pos ht0.symm]
          omega
        · exact h.c1 k d e hk2 ht he
      · rcases get_set hk with ⟨rfl, rfl⟩ | ⟨hkk, hk2⟩
        · cases he
        · obtain ⟨nx', ci', t2, g4, g5⟩ := h.c2 k d hk2 ht he
          have hne : n' ≠ d.t := fun e => hkk (hD.own hn hk2 hk0 e.symm ht0 he he0)
          exact ⟨nx', ci', t2, set_get g4 hne _, by rw [cnt_next hi (Nat.le_of_lt_succ (hD.time k d hk2).1), if_neg hne]; exact g5⟩
    · obtain ⟨rfl, g⟩ := h.get n' nx ci t (by omega) hn
      have hv : vstep (m.codes.getD 1 []) t s.words = (snext n t s.words, s.words) := by rw [hM.scan]; exact nsstep h1 h4 g h.len
      rw [hv] at hov ⊢
      refine ⟨⟨h.len, fun j nx' ci t' hj hn' => ?_, fun j nx' ci t' hj hn' => ?_, fun k d e hk ht he => ?_, fun k d hk ht he => ?_⟩, (snext_over s.words g hov).2⟩
      · rcases get_set hn' with ⟨_, e⟩ | ⟨_, e⟩
        · cases e
        · exact h.put j nx' ci t' hj e
      · rcases get_set hn' with ⟨_, e⟩ | ⟨_, e⟩
        · cases e
        · exact h.get j nx' ci t' hj e
      · rcases get_set hk with ⟨rfl, rfl⟩ | ⟨_, hk2⟩
        · exact absurd (show d0.t < T from ht) (by omega)
        · exact h.c1 k d e hk2 ht he
      · rcases get_set hk with ⟨rfl, rfl⟩ | ⟨hkk, hk2⟩
        · cases he
        · obtain ⟨nx', ci', t2, g4, g5⟩ := h.c2 k d hk2 ht he
          have hne : n' ≠ d.t := by omega
          exact ⟨nx', ci', t2, set_get g4 hne _, by rw [cnt_next hi (Nat.le_of_lt_succ (hD.time k d hk2).1), if_neg hne]; exact g5⟩
theorem SI.start {m : Mach} {n T : Nat} (hM : SnM m n T) (l : List Nat) : SI l n T 0 (pinit m).ths m.words [] := by
  have hz : ∀ (j nx ci : Nat) (t : Th), (pinit m).ths[j]? ≠ some (⟨nx, some (ci, t)⟩ : PT) := by
    intro j nx ci t h
    unfold pinit at h
    simp only [List.getElem?_replicate] at h
    split at h
    · injection h with h; injection h with _ h; cases h
    · cases h
  exact ⟨hM.words, fun j nx ci t _ h => absurd h (hz _ _ _ _), fun j nx ci t _ h => absurd h (hz _ _ _ _), fun k d e h => by simp at h, fun k d h => by simp at h⟩
structure SnapOk (q : Nat) (l : List Nat) (ds : List Dg) : Prop where
  put : ∀ (k : Nat) (d : Dg), ds[k]? = some d → d.t < 2 → cnt l d.b (match d.e with | none => l.length | some e => e + 1) d.t ≤ 80
  get : ∀ (k : Nat) (d : Dg), ds[k]? = some d → d.t = 2 → d.b < q + 250 → ∃ e, d.e = some e ∧ e < max q d.b + 50
theorem snap_ends {n : Nat} (h1 : 1 ≤ n) (h4 : n ≤ 4) (cs : List Int) (a : List Nat) :
    SnapOk a.length (a ++ List.replicate 500 2) (doings (play (nmach n cs) (a ++ List.replicate 500 2)).evs) ∧ NoErr (play (nmach n cs) (a ++ List.replicate 500 2)).evs := by
  have hM := nmach_snm h1 h4 cs
  obtain ⟨hI, hN⟩ := (snap_keeps h1 h4 hM (a ++ List.replicate 500 2)).play (SI.start hM _)
  obtain ⟨hA, hNa⟩ := (snap_keeps h1 h4 hM a).play (SI.start hM _)
  have hD := play_di (nmach n cs) (a ++ List.replicate 500 2)
  refine ⟨⟨fun k d hk ht => ?_, fun k d hk ht hb => ?_⟩, hN⟩
  · cases he : d.e with
    | some e =>
      have := hI.c1 k d e hk ht he
      simp only
      omega
    | none =>
      obtain ⟨nx, ci, t, g1, g2⟩ := hI.c2 k d hk ht he
      have := (hI.put d.t nx ci t ht g1).2.pc
      simp only
      omega
  · obtain ⟨W, hW⟩ : ∃ W, (play (nmach n cs) a).words = W := ⟨_, rfl⟩
    have hl : W.length = n := by rw [← hW]; exact hA.len
    have hQ := (quiet_play (m := nmach n cs) (a := a) (q := 500) (τ := 2) (B := 50) (P := fun _ ws => ws = W) (fun nx calls c ws hc hcc hws => by
      obtain rfl : ws = W := hws
      obtain rfl := hM.hi 2 calls c (Nat.le_refl _) hc (List.mem_of_getElem? hcc)
      obtain ⟨m, t', m1, m2, m3⟩ := NGet.ends h1 h4 hl (6 * n + 1) _ (NGet.begin h1 h4) (by omega)
      exact ⟨m, t', ws, by omega, m2, m3, rfl⟩) hNa (fun nx' _ => hW) (fun nx ci t ht => by
      obtain ⟨rfl, g⟩ := hA.get 2 nx ci t (Nat.le_refl _) ht
      obtain ⟨m, t', m1, m2, m3⟩ := NGet.ends h1 h4 hA.len (6 * n + 1) _ g (by omega)
      exact ⟨m, t', _, by omega, m2, m3, hW⟩)).1
    rw [List.length_append, List.length_replicate] at hD
    exact hQ.most hD rfl rfl hk ht (by omega) (by omega)
end

section
open Go.RowKit
def nW : Int := 1048576
/-- a Scan that will not go back, and what it has told -/
structure SGt (n : Nat) (ws : List Int) (t : Th) : Prop where
  gd : SGd n ws t
  nil : t.pc ≤ 4 * n + 1 → t.told = []
  told : 4 * n + 1 ≤ t.pc → t.told = (List.range ((t.pc - (4 * n + 1)) / 2)).map fun i : Nat => Int.tmod (vget ws i) 1048576
  v : 4 * n + 1 ≤ t.pc → (t.pc - (4 * n + 1)) % 2 = 1 → vget t.regs ((n : Int) + 4) = Int.tmod (vget ws (((t.pc - (4 * n + 1)) / 2 : Nat) : Int)) 1048576
theorem snext_told {n : Nat} (h1 : 1 ≤ n) (h4 : n ≤ 4) {t : Th} {ws : List Int} (h : SGt n ws t) : (snext n t ws).told = (if (snext n t ws).pc ≤ 4 * n + 1 then [] else (List.range (((snext n t ws).pc - (4 * n + 1)) / 2)).map fun i : Nat => Int.tmod (vget ws i) 1048576) ∧ (4 * n + 1 ≤ (snext n t ws).pc → ((snext n t ws).pc - (4 * n + 1)) % 2 = 1 → vget (snext n t ws).regs ((n : Int) + 4) = Int.tmod (vget ws ((((snext n t ws).pc - (4 * n + 1)) / 2 : Nat) : Int)) 1048576) := by
  obtain ⟨regs, pc, told, err, over⟩ := t
  obtain ⟨⟨⟨a1, a2, a3, a4, a5, a6, a7⟩, b1, b2, b3, b4⟩, c1, c2, c3⟩ := h
  simp only at a1 a2 a3 a4 a5 a6 a7 b1 b2 b3 b4 c1 c2 c3
  subst a1 a2
  unfold snext
  simp only
  rw [if_neg (by omega)]
  by_cases e1 : pc < n + 1
  · rw [if_pos e1]
    simp only
    exact ⟨by rw [if_pos (by omega)]; exact c1 (by omega), fun h => by omega⟩
  rw [if_neg e1]
  by_cases e2 : pc < 4 * n + 1
  · rw [if_pos e2]
    have hn := c1 (by omega)
    by_cases e3 : (pc - (n + 1)) % 3 = 0
    · rw [if_pos e3]; simp only
      exact ⟨by rw [if_pos (by omega)]; exact hn, fun h h2 => by omega⟩
    rw [if_neg e3]
    by_cases e4 : (pc - (n + 1)) % 3 = 1
    · rw [if_pos e4]; simp only
      exact ⟨by rw [if_pos (by omega)]; exact hn, fun h h2 => by omega⟩
    rw [if_neg e4]; simp only
    by_cases hz : vget regs ((n : Int) + 3) = 0
    · rw [if_pos hz]; exact ⟨by rw [if_pos (by omega)]; exact hn, fun h h2 => by omega⟩
    · rw [if_neg hz]; exact ⟨by rw [if_pos (by omega)]; exact hn, fun h h2 => by omega⟩
  rw [if_neg e2]
  have ht := c2 (by omega)
  by_cases e3 : (pc - (4 * n + 1)) % 2 = 0
  · rw [if_pos e3]; simp only
    refine ⟨?_, fun _ _ => ?_⟩
    · rw [if_neg (by omega), ht, show (pc + 1 - (4 * n + 1)) / 2 = (pc - (4 * n + 1)) / 2 by omega]
    · rw [nv_eq _ _ (by rw [a4]; omega), b2 ((pc - (4 * n + 1)) / 2) (by omega) (by omega), show (pc + 1 - (4 * n + 1)) / 2 = (pc - (4 * n + 1)) / 2 by omega]
  rw [if_neg e3]; simp only
  refine ⟨?_, fun _ h2 => by omega⟩
  rw [if_neg (by omega), ht, c3 (by omega) (by omega), show (pc + 1 - (4 * n + 1)) / 2 = (pc - (4 * n + 1)) / 2 + 1 by omega, List.range_succ, List.map_append]
  rfl
theorem SGt.next {n : Nat} (h1 : 1 ≤ n) (h4 : n ≤ 4) {t : Th} {ws : List Int} (h : SGt n ws t) (ho : (snext n t ws).over = false) : SGt n ws (snext n t ws) ∧ (snext n t ws).pc = t.pc + 1 := by
  obtain ⟨g1, g2⟩ := h.gd.next h1 h4 ho
  obtain ⟨g3, g4⟩ := snext_told h1 h4 h
  refine ⟨⟨g1, fun hp => by rw [g3, if_pos hp], fun hp => ?_, g4⟩, g2⟩
  rw [g3]
  split
  · rename_i hq
    rw [show ((snext n t ws).pc - (4 * n + 1)) / 2 = 0 by omega]; rfl
  · rfl
/-- what a Scan tells of the words -/
def ntold (n : Nat) (ws : List Int) : List Int := (List.range n).map fun i : Nat => Int.tmod (vget ws i) 1048576
theorem SGt.ends {n : Nat} (h1 : 1 ≤ n) (h4 : n ≤ 4) {ws : List Int} (hw : ws.length = n) : ∀ (q : Nat) (t : Th), SGt n ws t → 6 * n + 1 ≤ t.pc + q → ∃ m t', m ≤ q ∧ Ends (nscanCode n) t ws m t' ws ∧ t'.err = 0 ∧ t'.told = ntold n ws
  | 0, t, h, hq => by have := h.gd.get.pc; omega
  | q + 1, t, h, hq => by
    have hs := nsstep h1 h4 h.gd.get hw
    cases ho : (snext n t ws).over with
    | true =>
      obtain ⟨g1, g2⟩ := snext_over ws h.gd.get ho
      refine ⟨1, _, by omega, .last hs ho, g2, ?_⟩
      obtain ⟨g3, _⟩ := snext_told h1 h4 h
      have hp : (snext n t ws).pc = t.pc + 1 := by
        unfold snext
        simp only
        rw [if_neg (by omega), if_neg (by omega), if_neg (by omega)]
        split <;> rfl
      rw [g3, if_neg (by omega), hp, show (t.pc + 1 - (4 * n + 1)) / 2 = n by omega]
      rfl
    | false =>
      obtain ⟨g1, g2⟩ := h.next h1 h4 ho
      obtain ⟨m, t', m1, m2, m3⟩ := SGt.ends h1 h4 hw q _ g1 (by omega)
      exact ⟨m + 1, t', by omega, .more hs ho m2, m3⟩
theorem scan_alone {n : Nat} (h1 : 1 ≤ n) (h4 : n ≤ 4) {ws : List Int} (hw : ws.length = n) : ∃ m t', m ≤ 25 ∧ Ends (nscanCode n) (vbegin (nscanCode n).length []) ws m t' ws ∧ t'.err = 0 ∧ t'.told = ntold n ws := by
  have hg := NGet.begin h1 h4
  have hs := nsstep h1 h4 hg hw
  have hp : (vbegin (nscanCode n).length []).pc = 0 := by
    rcases (show n = 1 ∨ n = 2 ∨ n = 3 ∨ n = 4 by omega) with rfl | rfl | rfl | rfl <;> rfl
  have ht : (vbegin (nscanCode n).length []).told = [] := by
    rcases (show n = 1 ∨ n = 2 ∨ n = 3 ∨ n = 4 by omega) with rfl | rfl | rfl | rfl <;> rfl
  have e : snext n (vbegin (nscanCode n).length []) ws = { (vbegin (nscanCode n).length []) with regs := vset (vbegin (nscanCode n).length []).regs 0 1048576, pc := 1 } := by
    unfold snext
    simp only
    rw [if_pos hp]
  have ho : (snext n (vbegin (nscanCode n).length []) ws).over = false := by rw [e]; exact hg.over
  obtain ⟨g1, g2⟩ := snext_keep h1 h4 ws hg ho
  have hp1 : (snext n (vbegin (nscanCode n).length []) ws).pc = 1 := by rw [e]
  have ht1 : (snext n (vbegin (nscanCode n).length []) ws).told = [] := by rw [e]; exact ht
  obtain ⟨m, t', m1, m2, m3⟩ := SGt.ends h1 h4 hw (6 * n) (snext n (vbegin (nscanCode n).length []) ws) ⟨⟨g1, by omega, fun i _ h => absurd h (by omega), fun h => absurd h (by omega), fun h => absurd h (by omega)⟩, fun _ => ht1, fun h => absurd h (by omega), fun h => absurd h (by omega)⟩ (by omega)
  exact ⟨m + 1, t', by omega, .more hs ho m2, m3⟩
def npT (p v pc : Nat) (r2 r3 r4 : Int) : Th := ⟨(p : Int) :: (v : Int) :: r2 :: r3 :: r4 :: List.replicate 19 0, pc, [], 0, false⟩
theorem npT_ok {n p v pc : Nat} {r2 r3 r4 : Int} (hp : p < n) (hc : pc < 7) (h2 : 1 ≤ pc → r2 = 1048576) : NPut n (npT p v pc r2 r3 r4) :=
  ⟨rfl, rfl, hc, rfl, ⟨by show (0 : Int) ≤ (p : Int); omega, by show (p : Int) < (n : Int); omega⟩, fun h => h2 h⟩
/-- a Put alone -/
theorem put_alone {n p v : Nat} (h4 : n ≤ 4) (hp : p < n) {ws : List Int} (hw : ws.length = n) {x y z : Int} (hx : wrap64 (vget ws p - Int.tmod (vget ws p) 1048576) = x) (hy : wrap64 (x + 1048576) = y) (hz : wrap64 (y + (v : Int)) = z) : ∃ t', Ends nputCode (vbegin nputCode.length [(p : Int), (v : Int)]) ws 7 t' (vset ws p z) ∧ t'.err = 0 ∧ t'.told = [] := by
  obtain ⟨o, ho⟩ : ∃ o, vget ws p = o := ⟨_, rfl⟩
  obtain ⟨q, hq⟩ : ∃ q, Int.tmod o 1048576 = q := ⟨_, rfl⟩
  rw [ho, hq] at hx
  have s0 : vstep nputCode (npT p v 0 0 0 0) ws = (npT p v 1 1048576 0 0, ws) := (npstep h4 (npT_ok hp (by decide) (fun h => absurd h (by decide))) hw).trans rfl
  have s1 : vstep nputCode (npT p v 1 1048576 0 0) ws = (npT p v 2 1048576 o 0, ws) := (npstep h4 (npT_ok hp (by decide) (fun _ => rfl)) hw).trans (by rw [← ho]; rfl)
  have s2 : vstep nputCode (npT p v 2 1048576 o 0) ws = (npT p v 3 1048576 o q, ws) := (npstep h4 (npT_ok hp (by decide) (fun _ => rfl)) hw).trans (by rw [← hq]; rfl)
  have s3 : vstep nputCode (npT p v 3 1048576 o q) ws = (npT p v 4 1048576 x q, ws) := (npstep h4 (npT_ok hp (by decide) (fun _ => rfl)) hw).trans (by rw [← hx]; rfl)
  have s4 : vstep nputCode (npT p v 4 1048576 x q) ws = (npT p v 5 1048576 y q, ws) := (npstep h4 (npT_ok hp (by decide) (fun _ => rfl)) hw).trans (by rw [← hy]; rfl)
  have s5 : vstep nputCode (npT p v 5 1048576 y q) ws = (npT p v 6 1048576 z q, ws) := (npstep h4 (npT_ok hp (by decide) (fun _ => rfl)) hw).trans (by rw [← hz]; rfl)
  have s6 : vstep nputCode (npT p v 6 1048576 z q) ws = ({ npT p v 7 1048576 z q with over := true }, vset ws p z) := (npstep h4 (npT_ok hp (by decide) (fun _ => rfl)) hw).trans rfl
  exact ⟨_, .more s0 rfl (.more s1 rfl (.more s2 rfl (.more s3 rfl (.more s4 rfl (.more s5 rfl (.last s6 rfl)))))), rfl, rfl⟩
/-! ### ten calls -/
/-- what each part was put last -/
def nwant (n : Nat) (pv : List (Nat × Nat)) : List Int := pv.foldl (fun l x => l.set x.1 (x.2 : Int)) (List.replicate n 0)
def ncall (x : Nat × Nat) : VCall := ⟨0, [(x.1 : Int), (x.2 : Int)]⟩
def ncalls (pv : List (Nat × Nat)) : List VCall := ⟨1, []⟩ :: pv.map ncall
def nmachT (n : Nat) (pv : List (Nat × Nat)) : Mach := ⟨List.replicate n 0, [nputCode, nscanCode n], [ncalls pv ++ [⟨1, []⟩]]⟩
theorem nwant_len (n : Nat) (pv : List (Nat × Nat)) : (nwant n pv).length = n := by
  unfold nwant
  have : ∀ (l : List (Nat × Nat)) (z : List Int), (l.foldl (fun l x => l.set x.1 (x.2 : Int)) z).length = z.length := by
    intro l
    induction l with
    | nil => intro z; rfl
    | cons x l ih => intro z; rw [List.foldl_cons, ih, List.length_set]
  rw [this, List.length_replicate]
theorem nwant_snoc (n : Nat) (pv : List (Nat × Nat)) (x : Nat × Nat) : nwant n (pv ++ [x]) = vset (nwant n pv) x.1 (x.2 : Int) := by
  unfold nwant vset
  rw [List.foldl_append, Int.toNat_natCast]; rfl
/-- the words behind j calls -/
structure NI (n : Nat) (pv : List (Nat × Nat)) (j : Nat) (ws : List Int) : Prop where
  len : ws.length = n
  at_ : ∀ i : Nat, i < n → ∃ q : Nat, q ≤ j ∧ vget ws i = 1048576 * (q : Int) + vget (nwant n (pv.take (j - 1))) i ∧ 0 ≤ vget (nwant n (pv.take (j - 1))) i ∧ vget (nwant n (pv.take (j - 1))) i < 1048576
theorem NI.told {n : Nat} {pv : List (Nat × Nat)} {j : Nat} {ws : List Int} (h : NI n pv j ws) : ntold n ws = nwant n (pv.take (j - 1)) := by
  refine List.ext_getElem? fun i => ?_
  unfold ntold
  rw [List.getElem?_map]
  by_cases hi : i < n
  · obtain ⟨q, h1, h2, h3, h4⟩ := h.at_ i hi
    rw [List.getElem?_range hi]
    show some (Int.tmod (vget ws i) 1048576) = _
    have e : Int.tmod (vget ws i) 1048576 = vget (nwant n (pv.take (j - 1))) i := by
      rw [h2, Int.tmod_eq_emod_of_nonneg (by omega)]; omega
    rw [e]
    unfold vget
    rw [Int.toNat_natCast, List.getD_eq_getElem?_getD, List.getElem?_eq_getElem (by rw [nwant_len]; exact hi)]
    rfl
  · rw [List.getElem?_eq_none (by simp; omega), List.getElem?_eq_none (by rw [nwant_len]; omega)]; rfl
theorem snap_series {n : Nat} (h1 : 1 ≤ n) (h4 : n ≤ 4) {pv : List (Nat × Nat)} (hl : pv.length = 8) (hp : ∀ x ∈ pv, x.1 < n ∧ x.2 < 1048576) :
    Series (nmachT n pv) 0 (ncalls pv ++ [⟨1, []⟩]) 10 25 (NI n pv) (fun j => if j = 0 ∨ j = 9 then nwant n (pv.take (j - 1)) else []) where
  th := rfl
  call := by
    intro j ws hj hI
    have hl9 : (ncalls pv).length = 9 := by unfold ncalls; rw [List.length_cons, List.length_map, hl]
    by_cases hs : j = 0 ∨ j = 9
    · obtain ⟨m, t', m1, m2, m3, m4⟩ := scan_alone h1 h4 hI.len
      refine ⟨⟨1, []⟩, m, t', ws, ?_, m1, m2, ⟨hI.len, fun i hi => ?_⟩, m3, ?_⟩
      · rcases hs with rfl | rfl
        · rfl
        · rw [List.getElem?_append_right (by omega), hl9]; rfl
      · obtain ⟨q, g1, g2, g3, g4⟩ := hI.at_ i hi
        have e : pv.take (j + 1 - 1) = pv.take (j - 1) := by
          rcases hs with rfl | rfl
          · rfl
          · rw [List.take_of_length_le (by omega), List.take_of_length_le (by omega)]
        rw [e]
        exact ⟨q, by omega, g2, g3, g4⟩
      · rw [m4, hI.told, if_pos hs]
    · obtain ⟨x, hx⟩ : ∃ x, pv[j - 1]? = some x := ⟨_, List.getElem?_eq_getElem (by omega)⟩
      obtain ⟨x1, x2⟩ := hp x (List.mem_of_getElem? hx)
      obtain ⟨a, b⟩ := x
      simp only at x1 x2
      obtain ⟨q, g1, g2, g3, g4⟩ := hI.at_ a x1
      have w1 : wrap64 (vget ws a - Int.tmod (vget ws a) 1048576) = 1048576 * (q : Int) := by
        rw [g2, Int.tmod_eq_emod_of_nonneg (by omega)]
        unfold wrap64
        omega
      have w2 : wrap64 (1048576 * (q : Int) + 1048576) = 1048576 * ((q : Int) + 1) := by unfold wrap64; omega
      have w3 : wrap64 (1048576 * ((q : Int) + 1) + (b : Int)) = 1048576 * ((q + 1 : Nat) : Int) + (b : Int) := by unfold wrap64; omega
      obtain ⟨t', m2, m3, m4⟩ := put_alone h4 x1 hI.len w1 w2 w3
      have hc : (ncalls pv ++ [(⟨1, []⟩ : VCall)])[j]? = some (ncall (a, b)) := by
        rw [List.getElem?_append_left (by omega)]
        unfold ncalls
        rw [show j = (j - 1) + 1 by omega, List.getElem?_cons_succ, List.getElem?_map, hx]; rfl
      have e : pv.take (j + 1 - 1) = pv.take (j - 1) ++ [(a, b)] := by
        rw [show j + 1 - 1 = (j - 1) + 1 by omega, List.take_add_one, hx]; rfl
      refine ⟨ncall (a, b), 7, t', _, hc, by decide, m2, ⟨by unfold vset; rw [List.length_set]; exact hI.len, fun i hi => ?_⟩, m3, by rw [m4, if_neg hs]⟩
      rw [e, nwant_snoc]
      by_cases hia : i = a
      · subst hia
        rw [nv_eq _ _ (by rw [hI.len]; omega), nv_eq _ _ (by rw [nwant_len]; omega)]
        exact ⟨q + 1, by omega, rfl, by simp only; omega, by simp only; omega⟩
      · rw [nv_ne _ _ (by omega), nv_ne _ _ (by omega)]
        obtain ⟨q', g1', g2', g3', g4'⟩ := hI.at_ i hi
        exact ⟨q', by omega, g2', g3', g4'⟩
theorem NI.start {n : Nat} (pv : List (Nat × Nat)) : NI n pv 0 (nmachT n pv).words := by
  refine ⟨by simp [nmachT], fun i hi => ⟨0, Nat.le_refl _, ?_⟩⟩
  have e : vget (nwant n (pv.take (0 - 1))) i = 0 := by
    show vget (List.replicate n (0 : Int)) i = 0
    unfold vget
    rw [Int.toNat_natCast, List.getD_eq_getElem?_getD, List.getElem?_replicate, if_pos hi]; rfl
  have e2 : vget (nmachT n pv).words i = 0 := e
  rw [e, e2]
  exact ⟨by omega, by omega, by omega⟩
/-- what the law wants to know of the run -/
structure STell (n : Nat) (pv : List (Nat × Nat)) (ds : List Dg) : Prop where
  len : ds.length = 10
  first : ∀ d, ds[0]? = some d → d.told = List.replicate n 0
  last : ∀ d, ds[9]? = some d → (∃ e, d.e = some e) ∧ d.told = nwant n pv
theorem snap_tells {n : Nat} (h1 : 1 ≤ n) (h4 : n ≤ 4) {pv : List (Nat × Nat)} (hl : pv.length = 8) (hp : ∀ x ∈ pv, x.1 < n ∧ x.2 < 1048576) :
    STell n pv (doings (play (nmachT n pv) (List.replicate 1140 0)).evs) ∧ NoErr (play (nmachT n pv) (List.replicate 1140 0)).evs := by
  obtain ⟨h, hN, _⟩ := (snap_series h1 h4 hl hp).play (NI.start pv) (by unfold ncalls; rw [List.length_append, List.length_cons, List.length_map, hl]; rfl) (L := 1140) (by decide)
  refine ⟨⟨h.len, fun d hd => ?_, fun d hd => ?_⟩, hN⟩
  · obtain ⟨_, _, _, g⟩ := h.at_ 0 d hd
    rw [g]; rfl
  · obtain ⟨_, _, g1, g⟩ := h.at_ 9 d hd
    refine ⟨g1, ?_⟩
    rw [g, if_pos (.inr rfl), List.take_of_length_le (by omega)]
end

section
open Go.RowKit
/-! ### the thread that puts: its states are closed -/
def agp (j : Nat) : Nat := if j % 4 = 1 ∨ j % 4 = 2 then 1 else 0
def agv (j : Nat) : Nat := if 1 < j % 4 then 0 else 1
def agcalls (j : Nat) : List VCall := (List.range j).map fun q => ⟨0, [(agp q : Int), (agv q : Int)]⟩
def agM (n : Nat) : Mach := ⟨List.replicate n 0, [nputCode, nscanCode n], [agcalls 20, List.replicate 8 ⟨1, []⟩, List.replicate 8 ⟨1, []⟩]⟩
def nit : Nat → Th × List Int → Th × List Int
  | 0, s => s
  | p + 1, s => vstep nputCode (nit p s).1 (nit p s).2
/-- the words ahead of the k-th Put -/
def nW0 (n k : Nat) : List Int := (List.range k).foldl (fun ws j => vset ws (agp j) ((vget ws (agp j) / 1048576 + 1) * 1048576 + (agv j : Int))) (List.replicate n 0)
def nps (n k p : Nat) : Th × List Int := nit p (vbegin nputCode.length [(agp k : Int), (agv k : Int)], nW0 n k)
def goodb (n : Nat) (ws : List Int) : Bool := decide (ws.length = n) && decide (0 ≤ Int.tmod (vget ws 0) 1048576) && decide (Int.tmod (vget ws 0) 1048576 ≤ 1) && decide (0 ≤ Int.tmod (vget ws 1) 1048576) && decide (Int.tmod (vget ws 1) 1048576 ≤ 1) && !(decide (Int.tmod (vget ws 0) 1048576 = 0) && decide (Int.tmod (vget ws 1) 1048576 = 1)) && (List.range n).all fun i => decide (i < 2 ∨ Int.tmod (vget ws i) 1048576 = 0)
def monob (n : Nat) (a b : List Int) : Bool := (List.range n).all fun i => decide (vget a i ≤ vget b i)
set_option maxRecDepth 1000000 in
theorem ag_all : ((List.range 3).all fun a => (List.range 20).all fun k => goodb (a + 2) (nW0 (a + 2) k) && goodb (a + 2) (nW0 (a + 2) (k + 1)) && monob (a + 2) (nW0 (a + 2) k) (nW0 (a + 2) (k + 1)) && (nps (a + 2) k 7).1.over && ((nps (a + 2) k 7).1.err == 0) && ((nps (a + 2) k 7).2 == nW0 (a + 2) (k + 1)) && (List.range 7).all fun p => !(nps (a + 2) k p).1.over && ((nps (a + 2) k p).2 == nW0 (a + 2) k)) = true := by decide +kernel
theorem nps_succ (n k p : Nat) : nps n k (p + 1) = vstep nputCode (nps n k p).1 (nps n k p).2 := by unfold nps; rw [nit]
theorem nps_zero (n k : Nat) : nps n k 0 = (vbegin nputCode.length [(agp k : Int), (agv k : Int)], nW0 n k) := by unfold nps; rw [nit]
structure AgF (n k : Nat) : Prop where
  g0 : goodb n (nW0 n k) = true
  g1 : goodb n (nW0 n (k + 1)) = true
  mono : ∀ i : Nat, i < n → vget (nW0 n k) i ≤ vget (nW0 n (k + 1)) i
  over : (nps n k 7).1.over = true
  err : (nps n k 7).1.err = 0
  fin : (nps n k 7).2 = nW0 n (k + 1)
  mid : ∀ p, p < 7 → (nps n k p).1.over = false ∧ (nps n k p).2 = nW0 n k
theorem agF {n k : Nat} (h2 : 2 ≤ n) (h4 : n ≤ 4) (hk : k < 20) : AgF n k := by
  have h := ag_all
  rw [List.all_eq_true] at h
  have h := h (n - 2) (by rw [List.mem_range]; omega)
  rw [List.all_eq_true] at h
  have h := h k (by rw [List.mem_range]; omega)
  rw [show n - 2 + 2 = n by omega] at h
  simp only [Bool.and_eq_true] at h
  obtain ⟨⟨⟨⟨⟨⟨a1, a2⟩, a3⟩, a4⟩, a5⟩, a7⟩, a6⟩ := h
  refine ⟨a1, a2, fun i hi => ?_, a4, eq_of_beq a5, eq_of_beq a7, fun p hp => ?_⟩
  · unfold monob at a3
    rw [List.all_eq_true] at a3
    exact of_decide_eq_true (a3 i (by rw [List.mem_range]; exact hi))
  · rw [List.all_eq_true] at a6
    have h := a6 p (by rw [List.mem_range]; exact hp)
    rw [Bool.and_eq_true] at h
    exact ⟨by simpa using h.1, eq_of_beq h.2⟩
theorem ag_good {n k : Nat} (h2 : 2 ≤ n) (h4 : n ≤ 4) (hk : k ≤ 20) : goodb n (nW0 n k) = true := by
  rcases Nat.lt_or_ge k 20 with h | h
  · exact (agF h2 h4 h).g0
  · obtain rfl : k = 19 + 1 := by omega
    exact (agF h2 h4 (show 19 < 20 by decide)).g1
/-! ### what a Scan has seen -/
structure NStar (n : Nat) (ws W : List Int) (t : Th) : Prop where
  le : ∀ i : Nat, i < n → vget t.regs (ar i) ≤ vget W i ∧ vget W i ≤ vget ws i
  eq : ∀ i : Nat, i < n → n + 1 + 3 * i + 3 ≤ t.pc → vget t.regs (ar i) = vget W i
  b : (t.pc - (n + 1)) % 3 = 1 → t.pc < 4 * n + 1 → vget W (((t.pc - (n + 1)) / 3 : Nat) : Int) ≤ vget t.regs ((n : Int) + 2)
  s : (t.pc - (n + 1)) % 3 = 2 → t.pc < 4 * n + 1 → vget t.regs ((n : Int) + 3) ≠ 0 → vget t.regs (ar ((t.pc - (n + 1)) / 3)) = vget W (((t.pc - (n + 1)) / 3 : Nat) : Int)
  told : 4 * n + 1 ≤ t.pc → t.told = (List.range ((t.pc - (4 * n + 1)) / 2)).map fun i : Nat => Int.tmod (vget W i) 1048576
  v : 4 * n + 1 ≤ t.pc → (t.pc - (4 * n + 1)) % 2 = 1 → vget t.regs ((n : Int) + 4) = Int.tmod (vget W (((t.pc - (4 * n + 1)) / 2 : Nat) : Int)) 1048576
structure NH (n : Nat) (ws : List Int) (t : Th) : Prop where
  a : ∀ i : Nat, i < n → i + 1 < t.pc → vget t.regs (ar i) ≤ vget ws i
  star : n + 1 ≤ t.pc → ∃ k, k ≤ 20 ∧ NStar n ws (nW0 n k) t
theorem NH.begin {n : Nat} {ws : List Int} {t : Th} (h1 : 1 ≤ n) (h : t.pc ≤ 1) : NH n ws t := ⟨fun i _ h => by omega, fun h => by omega⟩
theorem NH.mono {n : Nat} {ws ws' : List Int} {t : Th} (h : NH n ws t) (hw : ∀ i : Nat, i < n → vget ws i ≤ vget ws' i) : NH n ws' t :=
  ⟨fun i hi hp => Int.le_trans (h.a i hi hp) (hw i hi), fun hp => by
    obtain ⟨k, hk, g⟩ := h.star hp
    exact ⟨k, hk, fun i hi => ⟨(g.le i hi).1, Int.le_trans (g.le i hi).2 (hw i hi)⟩, g.eq, g.b, g.s, g.told, g.v⟩⟩
theorem NH.next {n k : Nat} (h1 : 1 ≤ n) (h4 : n ≤ 4) (hk20 : k ≤ 20) {t : Th} {ws : List Int} (hw : ws = nW0 n k) (hg : NGet n t) (h : NH n ws t) : NH n ws (snext n t ws) := by
  obtain ⟨regs, pc, told, err, over⟩ := t
  obtain ⟨a1, a2, a3, a4, a5, a6, a7⟩ := hg
  obtain ⟨b1, b2⟩ := h
  simp only at a1 a2 a3 a4 a5 a6 a7 b1 b2
  subst a1 a2
  have har : ∀ i j : Nat, i ≠ j → (ar j : Int).toNat ≠ (ar i : Int).toNat := fun i j h => by unfold ar; split <;> split <;> omega
  have hal : ∀ i : Nat, i < n → (ar i : Int).toNat < 24 ∧ (ar i : Int).toNat < n + 2 := fun i h => by unfold ar; split <;> omega
  unfold snext
  simp only
  by_cases e0 : pc = 0
  · rw [if_pos e0]; exact NH.begin h1 (Nat.le_refl 1)
  rw [if_neg e0]
  by_cases e1 : pc < n + 1
  · rw [if_pos e1]
    have ha : ∀ i : Nat, i < n → i + 1 < pc + 1 → vget (vset regs (ar (pc - 1)) (vget ws ((pc - 1 : Nat) : Int))) (ar i) ≤ vget ws i := fun i hi hp => by
      by_cases e : i = pc - 1
      · subst e
        rw [nv_eq _ _ (by rw [a4]; exact (hal _ hi).1)]
        exact Int.le_refl _
      · rw [nv_ne _ _ (har i (pc - 1) e)]
        exact b1 i hi (by omega)
    refine ⟨ha, fun hp => ⟨k, hk20, ?_⟩⟩
    simp only at hp
    rw [← hw]
    exact ⟨fun i hi => ⟨ha i hi (by omega), Int.le_refl _⟩, fun i hi hq => by simp only at hq; omega, fun hq => by simp only at hq; omega, fun hq => by simp only at hq; omega, fun hq => by simp only at hq; omega, fun hq => by simp only at hq; omega⟩
  rw [if_neg e1]
  obtain ⟨k', hk', g⟩ := b2 (by omega)
  clear b2
  obtain ⟨c1, c2, c3, c4, c5, c6⟩ := g
  simp only at c1 c2 c3 c4 c5 c6
  by_cases e2 : pc < 4 * n + 1
  · rw [if_pos e2]
    by_cases e3 : (pc - (n + 1)) % 3 = 0
    · rw [if_pos e3]
      have hk : ∀ (x : Int) (i : Nat), i < n → vget (vset regs ((n : Int) + 2) x) (ar i) = vget regs (ar i) := fun x i hi => nv_ne _ _ (by have := (hal i hi).2; omega)
      refine ⟨fun i hi hp => by simp only; rw [hk _ i hi]; exact b1 i hi (by omega), fun _ => ⟨k', hk', fun i hi => by simp only; rw [hk _ i hi]; exact c1 i hi, fun i hi hp => ?_, fun hq hp => ?_, fun hq => ?_, fun hq => ?_, fun hq => ?_⟩⟩
      · simp only at hp ⊢; rw [hk _ i hi]; exact c2 i hi (by omega)
      · simp only at hq hp ⊢
        rw [nv_eq _ _ (by rw [a4]; omega), show (pc + 1 - (n + 1)) / 3 = (pc - (n + 1)) / 3 by omega]
        exact (c1 _ (by omega)).2
      · simp only at hq; omega
      · simp only at hq; omega
      · simp only at hq; omega
    rw [if_neg e3]
    by_cases e4 : (pc - (n + 1)) % 3 = 1
    · rw [if_pos e4]
      have hk : ∀ (x : Int) (i : Nat), i < n → vget (vset regs ((n : Int) + 3) x) (ar i) = vget regs (ar i) := fun x i hi => nv_ne _ _ (by have := (hal i hi).2; omega)
      refine ⟨fun i hi hp => by simp only; rw [hk _ i hi]; exact b1 i hi (by omega), fun _ => ⟨k', hk', fun i hi => by simp only; rw [hk _ i hi]; exact c1 i hi, fun i hi hp => ?_, fun hq hp => ?_, fun hq hp hz => ?_, fun hq => ?_, fun hq => ?_⟩⟩
      · simp only at hp ⊢; rw [hk _ i hi]; exact c2 i hi (by omega)
      · simp only at hq; omega
      · simp only at hq hp hz ⊢
        rw [nv_eq _ _ (by rw [a4]; omega)] at hz
        have he : (pc + 1 - (n + 1)) / 3 = (pc - (n + 1)) / 3 := by omega
        rw [he, hk _ _ (by omega)]
        by_cases hab : vget regs (ar ((pc - (n + 1)) / 3)) = vget regs ((n : Int) + 2)
        · have h5 := c3 e4 e2
          have h6 := (c1 ((pc - (n + 1)) / 3) (by omega)).1
          rw [hab] at h6 ⊢
          exact Int.le_antisymm h6 h5
        · rw [decide_eq_false hab] at hz; exact absurd rfl hz
      · simp only at hq; omega
      · simp only at hq; omega
    rw [if_neg e4]
    by_cases hz : vget regs ((n : Int) + 3) = 0
    · rw [if_pos hz]; exact NH.begin h1 (Nat.le_refl 1)
    rw [if_neg hz]
    have hs := c4 (by omega) e2 hz
    refine ⟨fun i hi hp => b1 i hi (by omega), fun _ => ⟨k', hk', c1, fun i hi hp => ?_, fun hq hp => ?_, fun hq hp => ?_, fun hq => ?_, fun hq hq2 => ?_⟩⟩
    · simp only at hp ⊢
      by_cases hii : n + 1 + 3 * i + 3 ≤ pc
      · exact c2 i hi hii
      · obtain rfl : i = (pc - (n + 1)) / 3 := by omega
        exact hs
    · simp only at hq; omega
    · simp only at hq; omega
    · simp only at hq ⊢
      rw [show (pc + 1 - (4 * n + 1)) / 2 = 0 by omega, List.eq_nil_of_length_eq_zero (show told.length = 0 by omega)]; rfl
    · simp only at hq hq2; omega
  rw [if_neg e2]
  by_cases e3 : (pc - (4 * n + 1)) % 2 = 0
  · rw [if_pos e3]
    have hk : ∀ (x : Int) (i : Nat), i < n → vget (vset regs ((n : Int) + 4) x) (ar i) = vget regs (ar i) := fun x i hi => nv_ne _ _ (by have := (hal i hi).2; omega)
    refine ⟨fun i hi hp => by simp only; rw [hk _ i hi]; exact b1 i hi (by omega), fun _ => ⟨k', hk', fun i hi => by simp only; rw [hk _ i hi]; exact c1 i hi, fun i hi hp => by simp only; rw [hk _ i hi]; exact c2 i hi (by omega), fun hq hp => by simp only at hp; omega, fun hq hp => by simp only at hp; omega, fun hq => ?_, fun hq hq2 => ?_⟩⟩
    · simp only at hq ⊢
      rw [c5 (by omega), show (pc + 1 - (4 * n + 1)) / 2 = (pc - (4 * n + 1)) / 2 by omega]
    · simp only at hq hq2 ⊢
      rw [nv_eq _ _ (by rw [a4]; omega), c2 _ (show (pc - (4 * n + 1)) / 2 < n by omega) (by omega), show (pc + 1 - (4 * n + 1)) / 2 = (pc - (4 * n + 1)) / 2 by omega]
  rw [if_neg e3]
  refine ⟨fun i hi hp => b1 i hi (by omega), fun _ => ⟨k', hk', c1, fun i hi hp => c2 i hi (by omega), fun hq hp => by simp only at hp; omega, fun hq hp => by simp only at hp; omega, fun hq => ?_, fun hq hq2 => ?_⟩⟩
  · simp only at hq ⊢
    rw [c5 (by omega), c6 (by omega) (by omega), show (pc + 1 - (4 * n + 1)) / 2 = (pc - (4 * n + 1)) / 2 + 1 by omega, List.range_succ, List.map_append]
    rfl
  · simp only at hq hq2; omega
/-! ### all runs -/
theorem ag_th0 (n : Nat) : (agM n).threads[0]? = some (agcalls 20) := rfl
theorem ag_th1 (n : Nat) : (agM n).threads[1]? = some (List.replicate 8 ⟨1, []⟩) := rfl
theorem ag_th2 (n : Nat) : (agM n).threads[2]? = some (List.replicate 8 ⟨1, []⟩) := rfl
theorem ag_thn (n j : Nat) (h : 3 ≤ j) : (agM n).threads[j]? = none := by
  rw [List.getElem?_eq_none_iff]
  exact h
theorem agp_lt (q : Nat) : agp q < 2 := by unfold agp; split <;> decide
theorem agcalls_mem {k : Nat} {c : VCall} (h : c ∈ agcalls k) : ∃ p q : Nat, p < 2 ∧ c = ⟨0, [(p : Int), (q : Int)]⟩ := by
  unfold agcalls at h
  obtain ⟨q, _, hq⟩ := List.mem_map.1 h
  exact ⟨agp q, agv q, agp_lt q, hq.symm⟩
theorem agM_snm {n : Nat} (h2 : 2 ≤ n) : SnM (agM n) n 1 where
  words := by unfold agM; rw [List.length_replicate]
  put := rfl
  scan := rfl
  lo := fun j calls c hj hc hm => by
    obtain rfl : j = 0 := by omega
    rw [ag_th0] at hc
    injection hc with hc
    subst hc
    obtain ⟨p, q, h1, h3⟩ := agcalls_mem hm
    exact ⟨p, q, by omega, h3⟩
  hi := fun j calls c hj hc hm => by
    rcases Nat.lt_or_ge j 3 with hl | hl
    · rcases (show j = 1 ∨ j = 2 by omega) with rfl | rfl
      · rw [ag_th1] at hc
        injection hc with hc
        subst hc
        exact List.eq_of_mem_replicate hm
      · rw [ag_th2] at hc
        injection hc with hc
        subst hc
        exact List.eq_of_mem_replicate hm
    · rw [ag_thn n j hl] at hc
      cases hc
structure AgI (n : Nat) (ths : List PT) (ws : List Int) (ds : List Dg) : Prop where
  w : ∃ k, k ≤ 20 ∧ ws = nW0 n k
  t0n : ∀ nx, ths[0]? = some ⟨nx, none⟩ → nx ≤ 20 ∧ ws = nW0 n nx
  t0s : ∀ nx ci t, ths[0]? = some ⟨nx, some (ci, t)⟩ → 1 ≤ nx ∧ nx ≤ 20 ∧ ∃ p, p < 7 ∧ nps n (nx - 1) p = (t, ws)
  get : ∀ j nx ci t, 1 ≤ j → ths[j]? = some ⟨nx, some (ci, t)⟩ → NH n ws t
  told : ∀ (k : Nat) (d : Dg) (e : Nat), ds[k]? = some d → d.t ≠ 0 → d.e = some e → ∃ v, v ≤ 20 ∧ d.told = ntold n (nW0 n v)
theorem ag_keeps {n : Nat} (h2 : 2 ≤ n) (h4 : n ≤ 4) (l : List Nat) : PKeeps (agM n) l (fun i ths ws ds => SI l n 1 i ths ws ds ∧ AgI n ths ws ds) where
  idle := fun i s n' hi hD h hn => ⟨(snap_keeps (by omega) h4 (agM_snm h2) l).idle i s n' hi hD h.1 hn, h.2⟩
  begin_ := by
    intro i s n' nx calls c hi hD h hn hc hcc
    have hK := (snap_keeps (by omega) h4 (agM_snm h2) l).begin_ i s n' nx calls c hi hD h.1 hn hc hcc
    obtain ⟨hS, hA⟩ := h
    refine ⟨hK, hA.w, fun nx' hn' => ?_, fun nx' ci t hn' => ?_, fun j nx' ci t hj hn' => ?_, fun k d e hk ht he => ?_⟩
    · rcases get_set hn' with ⟨_, e⟩ | ⟨_, e⟩
      · cases e
      · exact hA.t0n nx' e
    · rcases get_set hn' with ⟨e0, e⟩ | ⟨_, e⟩
      · subst e0
        injection e with e2 e; injection e with e; injection e with e3 e4
        subst e2 e3 e4
        rw [ag_th0] at hc
        injection hc with hc
        subst hc
        unfold agcalls at hcc
        rw [List.getElem?_map] at hcc
        obtain ⟨q, q1, q2⟩ := Option.map_eq_some_iff.1 hcc
        obtain ⟨q3, q4⟩ := List.getElem?_eq_some_iff.1 q1
        rw [List.getElem_range] at q4
        rw [List.length_range] at q3
        subst q4 q2
        obtain ⟨g1, g2⟩ := hA.t0n nx hn
        exact ⟨by omega, by omega, 0, by decide, by rw [Nat.add_sub_cancel, nps_zero, g2]; rfl⟩
      · exact hA.t0s nx' ci t e
    · rcases get_set hn' with ⟨e0, e⟩ | ⟨_, e⟩
      · injection e with e2 e; injection e with e; injection e with e3 e4
        subst e4
        exact NH.begin (by omega) (Nat.zero_le 1)
      · exact hA.get j nx' ci t hj e
    · rcases get_snoc hk with hk | ⟨_, rfl⟩
      · exact hA.told k d e hk ht he
      · cases he
  cont := by
    intro i s n' nx ci t hi hD h hn hov
    have hK := (snap_keeps (by omega) h4 (agM_snm h2) l).cont i s n' nx ci t hi hD h.1 hn hov
    obtain ⟨hS, hA⟩ := h
    refine ⟨hK, ?_⟩
    by_cases e0 : n' = 0
    · subst e0
      obtain ⟨rfl, g⟩ := hS.put 0 nx ci t (by decide) hn
      obtain ⟨a2, a3, p, a4, a5⟩ := hA.t0s nx 0 t hn
      have hv : vstep ((agM n).codes.getD 0 []) t s.words = nps n (nx - 1) (p + 1) := by
        rw [nps_succ, a5]
        rfl
      have hF := agF h2 h4 (show nx - 1 < 20 by omega)
      have hp : p + 1 < 7 := by
        rcases Nat.lt_or_ge (p + 1) 7 with h | h
        · exact h
        · have h3 := hF.over
          rw [show 7 = p + 1 by omega, ← hv, hov] at h3
          cases h3
      have hw : (vstep ((agM n).codes.getD 0 []) t s.words).2 = s.words := by
        rw [hv, (hF.mid (p + 1) hp).2, ← (hF.mid p a4).2, a5]
      rw [hw]
      refine ⟨hA.w, fun nx' hn' => ?_, fun nx' ci t' hn' => ?_, fun j nx' ci t' hj hn' => ?_, hA.told⟩
      · rcases get_set hn' with ⟨_, e⟩ | ⟨e, _⟩
        · cases e
        · exact absurd rfl e
      · rcases get_set hn' with ⟨_, e⟩ | ⟨e, _⟩
        · injection e with e2 e; injection e with e; injection e with e3 e4
          subst e2 e3 e4
          exact ⟨a2, a3, p + 1, hp, by rw [← hv]; exact Prod.ext rfl hw⟩
        · exact absurd rfl e
      · rcases get_set hn' with ⟨e, _⟩ | ⟨_, e⟩
        · omega
        · exact hA.get j nx' ci t' hj e
    · obtain ⟨rfl, g⟩ := hS.get n' nx ci t (by omega) hn
      have hv : vstep ((agM n).codes.getD 1 []) t s.words = (snext n t s.words, s.words) := nsstep (by omega) h4 g hS.len
      rw [hv] at hov ⊢
      refine ⟨hA.w, fun nx' hn' => ?_, fun nx' ci t' hn' => ?_, fun j nx' ci t' hj hn' => ?_, hA.told⟩
      · rcases get_set hn' with ⟨e, _⟩ | ⟨_, e⟩
        · omega
        · exact hA.t0n nx' e
      · rcases get_set hn' with ⟨e, _⟩ | ⟨_, e⟩
        · omega
        · exact hA.t0s nx' ci t' e
      · rcases get_set hn' with ⟨_, e⟩ | ⟨_, e⟩
        · injection e with e2 e; injection e with e; injection e with e3 e4
          subst e4
          obtain ⟨k, hk, hkw⟩ := hA.w
          exact (hA.get n' nx 1 t (by omega) hn).next (by omega) h4 hk hkw g
        · exact hA.get j nx' ci t' hj e
  fin_ := by
    intro i s n' nx ci t k0 d0 hi hD h hn hov hk0 ht0 hdc0 he0 htold
    obtain ⟨hK, herr⟩ := (snap_keeps (by omega) h4 (agM_snm h2) l).fin_ i s n' nx ci t k0 d0 hi hD h.1 hn hov hk0 ht0 hdc0 he0 htold
    obtain ⟨hS, hA⟩ := h
    refine ⟨⟨hK, ?_⟩, herr⟩
    by_cases e0 : n' = 0
    · subst e0
      obtain ⟨rfl, g⟩ := hS.put 0 nx ci t (by decide) hn
      obtain ⟨a2, a3, p, a4, a5⟩ := hA.t0s nx 0 t hn
      have hv : vstep ((agM n).codes.getD 0 []) t s.words = nps n (nx - 1) (p + 1) := by
        rw [nps_succ, a5]
        rfl
      have hF := agF h2 h4 (show nx - 1 < 20 by omega)
      have hp : p + 1 = 7 := by
        rcases Nat.lt_or_ge (p + 1) 7 with h | h
        · have h3 := (hF.mid (p + 1) h).1
          rw [← hv, hov] at h3
          cases h3
        · omega
      have hw : (vstep ((agM n).codes.getD 0 []) t s.words).2 = nW0 n nx := by
        rw [hv, hp, hF.fin, show nx - 1 + 1 = nx by omega]
      have hws : s.words = nW0 n (nx - 1) := by rw [← (hF.mid p a4).2, a5]
      have hm : ∀ i : Nat, i < n → vget s.words i ≤ vget (nW0 n nx) i := fun i hi => by
        have h := hF.mono i hi
        rw [show nx - 1 + 1 = nx by omega] at h
        rw [hws]; exact h
      rw [hw]
      refine ⟨⟨nx, a3, rfl⟩, fun nx' hn' => ?_, fun nx' ci t' hn' => ?_, fun j nx' ci t' hj hn' => ?_, fun k d e hk ht he => ?_⟩
      · rcases get_set hn' with ⟨_, e⟩ | ⟨e, _⟩
        · injection e with e2 e
          subst e2
          exact ⟨a3, rfl⟩
        · exact absurd rfl e
      · rcases get_set hn' with ⟨_, e⟩ | ⟨e, _⟩
        · cases e
        · exact absurd rfl e
      · rcases get_set hn' with ⟨e, _⟩ | ⟨_, e⟩
        · omega
        · exact (hA.get j nx' ci t' hj e).mono hm
      · rcases get_set hk with ⟨rfl, rfl⟩ | ⟨_, hk2⟩
        · exact absurd ht0 ht
        · exact hA.told k d e hk2 ht he
    · obtain ⟨rfl, g⟩ := hS.get n' nx ci t (by omega) hn
      have hv : vstep ((agM n).codes.getD 1 []) t s.words = (snext n t s.words, s.words) := nsstep (by omega) h4 g hS.len
      rw [hv] at hov ⊢
      have hpc := (snext_over s.words g hov).1
      obtain ⟨k, hk, hkw⟩ := hA.w
      have hH := (hA.get n' nx 1 t (by omega) hn).next (by omega) h4 hk hkw g
      have hnpc : (snext n t s.words).pc = 6 * n + 1 := by
        unfold snext
        simp only
        rw [if_neg (by omega), if_neg (by omega), if_neg (by omega)]
        split <;> exact hpc
      obtain ⟨v, hv20, hst⟩ := hH.star (by rw [hnpc]; omega)
      have htd := hst.told (by rw [hnpc]; omega)
      rw [hnpc, show (6 * n + 1 - (4 * n + 1)) / 2 = n by omega] at htd
      refine ⟨⟨k, hk, hkw⟩, fun nx' hn' => ?_, fun nx' ci t' hn' => ?_, fun j nx' ci t' hj hn' => ?_, fun k d e hk ht he => ?_⟩
      · rcases get_set hn' with ⟨e, _⟩ | ⟨_, e⟩
        · omega
        · exact hA.t0n nx' e
      · rcases get_set hn' with ⟨e, _⟩ | ⟨_, e⟩
        · omega
        · exact hA.t0s nx' ci t' e
      · rcases get_set hn' with ⟨_, e⟩ | ⟨_, e⟩
        · cases e
        · exact hA.get j nx' ci t' hj e
      · rcases get_set hk with ⟨rfl, rfl⟩ | ⟨_, hk2⟩
        · exact ⟨v, hv20, htd⟩
        · exact hA.told k d e hk2 ht he
theorem AgI.start (n : Nat) : AgI n (pinit (agM n)).ths (agM n).words [] := by
  refine ⟨⟨0, by decide, rfl⟩, fun nx h => ?_, fun nx ci t h => ?_, fun j nx ci t _ h => ?_, fun k d e h => by simp at h⟩
  · unfold pinit at h
    simp only [List.getElem?_replicate] at h
    split at h
    · injection h with h; injection h with h
      subst h
      exact ⟨by omega, rfl⟩
    · cases h
  all_goals
    exfalso
    unfold pinit at h
    simp only [List.getElem?_replicate] at h
    split at h
    · injection h with h; injection h with _ h; cases h
    · cases h
/-- what is told by a Scan -/
structure AgTold (n : Nat) (l : List Int) : Prop where
  len : l.length = n
  lo0 : 0 ≤ vget l 0
  hi0 : vget l 0 ≤ 1
  lo1 : 0 ≤ vget l 1
  hi1 : vget l 1 ≤ 1
  no : ¬ (vget l 0 = 0 ∧ vget l 1 = 1)
  rest : ∀ i : Nat, 2 ≤ i → i < n → vget l i = 0
theorem ntold_at {n i : Nat} (hi : i < n) (ws : List Int) : vget (ntold n ws) i = Int.tmod (vget ws i) 1048576 := by
  unfold ntold
  show ((List.range n).map _).getD (i : Int).toNat 0 = _
  rw [Int.toNat_natCast, List.getD_eq_getElem?_getD, List.getElem?_map, List.getElem?_range hi]; rfl
theorem good_told {n : Nat} (h2 : 2 ≤ n) {ws : List Int} (h : goodb n ws = true) : AgTold n (ntold n ws) := by
  unfold goodb at h
  simp only [Bool.and_eq_true, decide_eq_true_eq, Bool.not_eq_true', Bool.and_eq_false_iff, decide_eq_false_iff_not, List.all_eq_true, List.mem_range] at h
  obtain ⟨⟨⟨⟨⟨⟨_, a1⟩, a2⟩, a3⟩, a4⟩, a5⟩, a6⟩ := h
  have e0 : vget (ntold n ws) 0 = Int.tmod (vget ws 0) 1048576 := ntold_at (i := 0) (by omega) ws
  have e1 : vget (ntold n ws) 1 = Int.tmod (vget ws 1) 1048576 := ntold_at (i := 1) (by omega) ws
  refine ⟨by unfold ntold; simp, by rw [e0]; exact a1, by rw [e0]; exact a2, by rw [e1]; exact a3, by rw [e1]; exact a4, fun h => ?_, fun i hi hn => ?_⟩
  · rw [e0, e1] at h
    rcases a5 with a5 | a5
    · exact a5 h.1
    · exact a5 h.2
  · rw [ntold_at hn]
    rcases a6 i hn with h | h
    · omega
    · exact h
theorem snap_again {n : Nat} (h2 : 2 ≤ n) (h4 : n ≤ 4) (l : List Nat) : (∀ (k : Nat) (d : Dg) (e : Nat), (doings (play (agM n) l).evs)[k]? = some d → d.t ≠ 0 → d.e = some e → AgTold n d.told) ∧ NoErr (play (agM n) l).evs := by
  have h := (ag_keeps h2 h4 l).play ⟨SI.start (agM_snm h2) l, AgI.start n⟩
  refine ⟨fun k d e hk ht he => ?_, h.2⟩
  obtain ⟨v, hv, hd⟩ := h.1.2.told k d e hk ht he
  rw [hd]
  exact good_told h2 (ag_good h2 h4 hv)
end
end Go.Proofs.YtabmkjokeeakdaaDoor
