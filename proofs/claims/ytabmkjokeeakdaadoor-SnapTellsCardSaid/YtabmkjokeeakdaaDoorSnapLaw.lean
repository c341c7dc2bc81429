/-
  Package snap: a Put is done in its steps, a Scan that is alone too; plain laws.
-/
import Derived.Test.YtabmkjokeeakdaaDoorSnapMach
import Derived.Test.YtabmkjokeeakdaaDoorQuiet
import Derived.Test.YtabmkjokeeakdaaDoorWStep
namespace Go.Proofs.YtabmkjokeeakdaaDoor
open Go.RowKit
set_option linter.unusedVariables false

theorem nv_ne (ws : List Int) {i j : Int} (x : Int) (h : i.toNat ≠ j.toNat) : vget (vset ws i x) j = vget ws j := by
  unfold vget vset
  rw [List.getD_eq_getElem?_getD, List.getD_eq_getElem?_getD, List.getElem?_set_ne h]
theorem nv_eq (ws : List Int) {i : Int} (x : Int) (h : i.toNat < ws.length) : vget (vset ws i x) i = x := by
  unfold vget vset
  rw [List.getD_eq_getElem?_getD, List.getElem?_set_self h]
  rfl
/-! ### the calls of the machine -/
theorem snst_args {n : Nat} (h1 : 1 ≤ n) (h4 : n ≤ 4) (cs : List Int) : ∀ i j, ∀ c ∈ (snst n cs i).2 j, ∃ p q : Nat, p < n ∧ 1 ≤ q ∧ q ≤ i ∧ c = ⟨0, [(p : Int), (q : Int)]⟩
  | 0, _, c, h => by cases h
  | i + 1, j, c, h => by
    unfold snst at h
    have up : (∃ p q : Nat, p < n ∧ 1 ≤ q ∧ q ≤ i ∧ c = ⟨0, [(p : Int), (q : Int)]⟩) → ∃ p q : Nat, p < n ∧ 1 ≤ q ∧ q ≤ i + 1 ∧ c = ⟨0, [(p : Int), (q : Int)]⟩ := fun ⟨p, q, a, b, c, d⟩ => ⟨p, q, a, b, by omega, d⟩
    split at h
    · exact up (snst_args h1 h4 cs i j c h)
    · have h : c ∈ upd (snst n cs i).2 (i % 2) _ j := h
      unfold upd at h
      split at h
      · rcases List.mem_append.1 h with h | h
        · exact up (snst_args h1 h4 cs i _ c h)
        · exact ⟨spart n cs i, (snst n cs i).1 (spart n cs i) + 1, (spart_lt h1 h4 cs i).1, by omega, Nat.succ_le_succ (snst_cnt n cs i _), List.mem_singleton.1 h⟩
      · exact up (snst_args h1 h4 cs i j c h)
/-- a machine of Puts and Scans: threads below T put, the others scan -/
structure SnM (m : Mach) (n T : Nat) : Prop where
  words : m.words.length = n
  put : m.codes.getD 0 [] = nputCode
  scan : m.codes.getD 1 [] = nscanCode n
  lo : ∀ j calls c, j < T → m.threads[j]? = some calls → c ∈ calls → ∃ p q : Nat, p < n ∧ c = ⟨0, [(p : Int), (q : Int)]⟩
  hi : ∀ j calls c, T ≤ j → m.threads[j]? = some calls → c ∈ calls → c = ⟨1, []⟩
theorem nth_lo (n : Nat) (cs : List Int) {j : Nat} (hj : j < 2) : (nmach n cs).threads[j]? = some ((snst n cs 24).2 j) := by
  rcases (show j = 0 ∨ j = 1 by omega) with rfl | rfl <;> rfl
theorem nth_hi (n : Nat) (cs : List Int) {j : Nat} (hj : 2 ≤ j) {calls : List VCall} (h : (nmach n cs).threads[j]? = some calls) : calls = List.replicate 10 ⟨1, []⟩ := by
  unfold nmach at h
  simp only [List.getElem?_map] at h
  obtain ⟨x, h1, h2⟩ := Option.map_eq_some_iff.1 h
  obtain ⟨h3, h4⟩ := List.getElem?_eq_some_iff.1 h1
  rw [List.getElem_range] at h4
  subst h4
  rw [List.length_range] at h3
  rw [← h2]
  unfold nth
  rw [if_neg (by omega), if_pos h3, if_neg (by omega)]
theorem nmach_snm {n : Nat} (h1 : 1 ≤ n) (h4 : n ≤ 4) (cs : List Int) : SnM (nmach n cs) n 2 where
  words := by simp [nmach]
  put := rfl
  scan := rfl
  lo := fun j calls c hj hc hm => by
    rw [nth_lo n cs hj] at hc
    injection hc with hc
    subst hc
    obtain ⟨p, q, a, _, _, b⟩ := snst_args h1 h4 cs 24 j c hm
    exact ⟨p, q, a, b⟩
  hi := fun j calls c hj hc hm => by
    rw [nth_hi n cs hj hc] at hm
    exact List.eq_of_mem_replicate hm
/-! ### a Put -/
structure NPut (n : Nat) (t : Th) : Prop where
  over : t.over = false
  err : t.err = 0
  pc : t.pc < 7
  regs : t.regs.length = 24
  part : 0 ≤ vget t.regs 0 ∧ vget t.regs 0 < (n : Int)
  wide : 1 ≤ t.pc → vget t.regs 2 = 1048576
theorem NPut.begin {n p q : Nat} (hp : p < n) : NPut n (vbegin nputCode.length [(p : Int), (q : Int)]) :=
  ⟨rfl, rfl, Nat.le_of_ble_eq_true rfl, rfl, ⟨by show (0 : Int) ≤ (p : Int); omega, by show (p : Int) < (n : Int); omega⟩, fun h => absurd h (by show ¬ 1 ≤ 0; decide)⟩
/-- what a step of a Put does -/
def pnext (t : Th) (ws : List Int) : Th × List Int :=
  let r := t.regs
  if t.pc = 0 then ({ t with regs := vset r 2 1048576, pc := 1 }, ws) else
  if t.pc = 1 then ({ t with regs := vset r 3 (vget ws (vget r 0)), pc := 2 }, ws) else
  if t.pc = 2 then ({ t with regs := vset r 4 (Int.tmod (vget r 3) 1048576), pc := 3 }, ws) else
  if t.pc = 3 then ({ t with regs := vset r 3 (wrap64 (vget r 3 - vget r 4)), pc := 4 }, ws) else
  if t.pc = 4 then ({ t with regs := vset r 3 (wrap64 (vget r 3 + 1048576)), pc := 5 }, ws) else
  if t.pc = 5 then ({ t with regs := vset r 3 (wrap64 (vget r 3 + vget r 1)), pc := 6 }, ws) else
  ({ t with pc := 7, over := true }, vset ws (vget r 0) (vget r 3))
theorem npstep {n : Nat} (h4 : n ≤ 4) {t : Th} {ws : List Int} (h : NPut n t) (hw : ws.length = n) : vstep nputCode t ws = pnext t ws := by
  obtain ⟨regs, pc, told, err, over⟩ := t
  obtain ⟨a1, a2, a3, a4, ⟨a5, a5'⟩, a6⟩ := h
  simp only at a1 a2 a3 a4 a5 a5' a6
  subst a1 a2
  have hwr : wrap64 (vget regs 0 + 0) = vget regs 0 := by unfold wrap64; omega
  have hb : ¬ (vget regs 0 < 0 ∨ (ws.length : Int) ≤ vget regs 0) := by omega
  unfold pnext
  simp only
  rcases (show pc = 0 ∨ pc = 1 ∨ pc = 2 ∨ pc = 3 ∨ pc = 4 ∨ pc = 5 ∨ pc = 6 by omega) with rfl | rfl | rfl | rfl | rfl | rfl | rfl
  · rw [wsp_over nputCode _ ws ⟨1, 2, 1048576, 0, 0⟩ rfl rfl]; rfl
  · rw [wsp_over nputCode _ ws ⟨13, 3, 0, 0, 0⟩ rfl rfl]
    simp only [vdo, vother, hwr, hb]
    rfl
  · rw [wsp_over nputCode _ ws ⟨7, 4, 3, 2, 0⟩ rfl rfl]
    simp [vdo, vquo, a6, nputCode]
  · rw [wsp_over nputCode _ ws ⟨4, 3, 3, 4, 0⟩ rfl rfl]; rfl
  · rw [wsp_over nputCode _ ws ⟨3, 3, 3, 2, 0⟩ rfl rfl]
    simp [vdo, a6, nputCode]
  · rw [wsp_over nputCode _ ws ⟨3, 3, 3, 1, 0⟩ rfl rfl]; rfl
  · rw [wsp_over nputCode _ ws ⟨14, 3, 0, 0, 0⟩ rfl rfl]
    simp only [vdo, vother, hwr, hb]
    rfl
theorem pnext_keep {n : Nat} {t : Th} {ws : List Int} (h : NPut n t) (ho : (pnext t ws).1.over = false) : NPut n (pnext t ws).1 ∧ (pnext t ws).1.pc = t.pc + 1 ∧ (pnext t ws).2 = ws := by
  obtain ⟨regs, pc, told, err, over⟩ := t
  obtain ⟨a1, a2, a3, a4, a5, a6⟩ := h
  simp only at a1 a2 a3 a4 a5 a6
  subst a1 a2
  have sl : ∀ (i x : Int), (vset regs i x).length = 24 := fun i x => by unfold vset; rw [List.length_set]; exact a4
  have k0 : ∀ (i x : Int), i.toNat ≠ 0 → 0 ≤ vget (vset regs i x) 0 ∧ vget (vset regs i x) 0 < (n : Int) := fun i x hi => by rw [nv_ne _ _ hi]; exact a5
  rcases (show pc = 0 ∨ pc = 1 ∨ pc = 2 ∨ pc = 3 ∨ pc = 4 ∨ pc = 5 ∨ pc = 6 by omega) with rfl | rfl | rfl | rfl | rfl | rfl | rfl
  · exact ⟨⟨rfl, rfl, Nat.le_of_ble_eq_true rfl, sl _ _, k0 _ _ (by decide), fun _ => nv_eq _ _ (by rw [a4]; decide)⟩, rfl, rfl⟩
  · exact ⟨⟨rfl, rfl, Nat.le_of_ble_eq_true rfl, sl _ _, k0 _ _ (by decide), fun _ => (nv_ne _ _ (by decide)).trans (a6 (by decide))⟩, rfl, rfl⟩
  · exact ⟨⟨rfl, rfl, Nat.le_of_ble_eq_true rfl, sl _ _, k0 _ _ (by decide), fun _ => (nv_ne _ _ (by decide)).trans (a6 (by decide))⟩, rfl, rfl⟩
  · exact ⟨⟨rfl, rfl, Nat.le_of_ble_eq_true rfl, sl _ _, k0 _ _ (by decide), fun _ => (nv_ne _ _ (by decide)).trans (a6 (by decide))⟩, rfl, rfl⟩
  · exact ⟨⟨rfl, rfl, Nat.le_of_ble_eq_true rfl, sl _ _, k0 _ _ (by decide), fun _ => (nv_ne _ _ (by decide)).trans (a6 (by decide))⟩, rfl, rfl⟩
  · exact ⟨⟨rfl, rfl, Nat.le_of_ble_eq_true rfl, sl _ _, k0 _ _ (by decide), fun _ => (nv_ne _ _ (by decide)).trans (a6 (by decide))⟩, rfl, rfl⟩
  · cases ho
theorem pnext_over {n : Nat} {t : Th} {ws : List Int} (h : NPut n t) (ho : (pnext t ws).1.over = true) : t.pc = 6 ∧ (pnext t ws).1.err = 0 ∧ (pnext t ws).1.told = t.told ∧ (pnext t ws).2 = vset ws (vget t.regs 0) (vget t.regs 3) := by
  obtain ⟨regs, pc, told, err, over⟩ := t
  obtain ⟨a1, a2, a3, a4, a5, a6⟩ := h
  simp only at a1 a2 a3 a4 a5 a6
  subst a1 a2
  rcases (show pc = 0 ∨ pc = 1 ∨ pc = 2 ∨ pc = 3 ∨ pc = 4 ∨ pc = 5 ∨ pc = 6 by omega) with rfl | rfl | rfl | rfl | rfl | rfl | rfl
  all_goals first | (cases ho; done) | exact ⟨rfl, rfl, rfl, rfl⟩
theorem pnext_len (t : Th) (ws : List Int) : (pnext t ws).2.length = ws.length := by
  unfold pnext
  simp only
  iterate 6 (split; rfl)
  unfold vset
  rw [List.length_set]
/-! ### a Scan -/
def ar (i : Nat) : Nat := if i = 0 then 1 else i + 2
def sop (n p : Nat) : Op5 := if p = 0 then ⟨1, 0, 1048576, 0, 0⟩ else if p < n + 1 then ⟨13, ar (p - 1), 2, (p - 1 : Nat), 0⟩ else if p < 4 * n + 1 then (if (p - (n + 1)) % 3 = 0 then ⟨13, (n : Int) + 2, 2, ((p - (n + 1)) / 3 : Nat), 0⟩ else if (p - (n + 1)) % 3 = 1 then ⟨8, (n : Int) + 3, ar ((p - (n + 1)) / 3), (n : Int) + 2, 0⟩ else ⟨12, (n : Int) + 3, 1, 0, 0⟩) else if (p - (4 * n + 1)) % 2 = 0 then ⟨7, (n : Int) + 4, ar ((p - (4 * n + 1)) / 2), 0, 0⟩ else ⟨16, (n : Int) + 4, 0, 0, 0⟩
theorem sop_all : ((List.range 4).all fun a => (List.range (6 * a + 7)).all fun p => decide ((nscanCode (a + 1))[p]? = some (sop (a + 1) p))) = true := by decide +kernel
theorem sop_at {n p : Nat} (h1 : 1 ≤ n) (h4 : n ≤ 4) (hp : p < 6 * n + 1) : (nscanCode n)[p]? = some (sop n p) := by
  have h := sop_all
  rw [List.all_eq_true] at h
  have h := h (n - 1) (by rw [List.mem_range]; omega)
  rw [List.all_eq_true] at h
  have h := h p (by rw [List.mem_range]; omega)
  rw [show n - 1 + 1 = n by omega] at h
  exact of_decide_eq_true h
structure NGet (n : Nat) (t : Th) : Prop where
  over : t.over = false
  err : t.err = 0
  pc : t.pc < 6 * n + 1
  regs : t.regs.length = 24
  base : vget t.regs 2 = 0
  wide : 1 ≤ t.pc → vget t.regs 0 = 1048576
  told : t.told.length ≤ t.pc - (4 * n + 1)
theorem NGet.begin {n : Nat} (h1 : 1 ≤ n) (h4 : n ≤ 4) : NGet n (vbegin (nscanCode n).length []) := by
  rcases (show n = 1 ∨ n = 2 ∨ n = 3 ∨ n = 4 by omega) with rfl | rfl | rfl | rfl <;>
    exact ⟨rfl, rfl, by decide, rfl, rfl, fun h => absurd h (by decide), Nat.zero_le _⟩
def snext (n : Nat) (t : Th) (ws : List Int) : Th :=
  let p := t.pc
  let r := t.regs
  if p = 0 then { t with regs := vset r 0 1048576, pc := 1 } else
  if p < n + 1 then { t with regs := vset r (ar (p - 1)) (vget ws ((p - 1 : Nat) : Int)), pc := p + 1 } else
  if p < 4 * n + 1 then
    (if (p - (n + 1)) % 3 = 0 then { t with regs := vset r ((n : Int) + 2) (vget ws (((p - (n + 1)) / 3 : Nat) : Int)), pc := p + 1 } else
     if (p - (n + 1)) % 3 = 1 then { t with regs := vset r ((n : Int) + 3) (vflag (decide (vget r (ar ((p - (n + 1)) / 3)) = vget r ((n : Int) + 2)))), pc := p + 1 } else
     { t with pc := if vget r ((n : Int) + 3) = 0 then 1 else p + 1 }) else
  if (p - (4 * n + 1)) % 2 = 0 then { t with regs := vset r ((n : Int) + 4) (Int.tmod (vget r (ar ((p - (4 * n + 1)) / 2))) 1048576), pc := p + 1 } else
  { t with told := t.told ++ [vget r ((n : Int) + 4)], pc := p + 1, over := decide (p + 1 = 6 * n + 1) }
/-! ### operations, one step each -/
theorem vn_set {code : List Op5} {t t' : Th} {ws : List Int} {a b c d : Int} (h0 : t.over = false) (h1 : code[t.pc]? = some ⟨1, a, b, c, d⟩) (ht : t' = { t with regs := vset t.regs a b, pc := t.pc + 1, over := decide (t.pc + 1 = code.length) }) : vstep code t ws = (t', ws) := by
  rw [wsp_over code t ws _ h0 h1, ht]
  have e : vdo ⟨1, a, b, c, d⟩ { t with pc := t.pc + 1 } ws = ({ t with pc := t.pc + 1, regs := vset t.regs a b }, ws) := rfl
  rw [e]
  simp only [h0, Bool.false_or]
theorem vn_rem {code : List Op5} {t t' : Th} {ws : List Int} {a b c d : Int} (h0 : t.over = false) (h1 : code[t.pc]? = some ⟨7, a, b, c, d⟩) (hz : vget t.regs c ≠ 0) (ht : t' = { t with regs := vset t.regs a (Int.tmod (vget t.regs b) (vget t.regs c)), pc := t.pc + 1, over := decide (t.pc + 1 = code.length) }) : vstep code t ws = (t', ws) := by
  rw [wsp_over code t ws _ h0 h1, ht]
  have e : vdo ⟨7, a, b, c, d⟩ { t with pc := t.pc + 1 } ws = ({ t with pc := t.pc + 1, regs := vset t.regs a (vquo (vget t.regs b) (vget t.regs c) true) }, ws) := rfl
  have e2 : vquo (vget t.regs b) (vget t.regs c) true = Int.tmod (vget t.regs b) (vget t.regs c) := by unfold vquo; rw [if_neg hz, if_pos rfl]
  rw [e, e2]
  simp only [h0, Bool.false_or]
theorem vn_same {code : List Op5} {t t' : Th} {ws : List Int} {a b c d : Int} (h0 : t.over = false) (h1 : code[t.pc]? = some ⟨8, a, b, c, d⟩) (ht : t' = { t with regs := vset t.regs a (vflag (decide (vget t.regs b = vget t.regs c))), pc := t.pc + 1, over := decide (t.pc + 1 = code.length) }) : vstep code t ws = (t', ws) := by
  rw [wsp_over code t ws _ h0 h1, ht]
  have e : vdo ⟨8, a, b, c, d⟩ { t with pc := t.pc + 1 } ws = ({ t with pc := t.pc + 1, regs := vset t.regs a (vflag (decide (vget t.regs b = vget t.regs c))) }, ws) := rfl
  rw [e]
  simp only [h0, Bool.false_or]
theorem vn_unless {code : List Op5} {t t' : Th} {ws : List Int} {a b c d : Int} (h0 : t.over = false) (h1 : code[t.pc]? = some ⟨12, a, b, c, d⟩) (ht : t' = { t with pc := if vget t.regs a = 0 then b.toNat else t.pc + 1, over := decide ((if vget t.regs a = 0 then b.toNat else t.pc + 1) = code.length) }) : vstep code t ws = (t', ws) := by
  rw [wsp_over code t ws _ h0 h1, ht]
  have e : vdo ⟨12, a, b, c, d⟩ { t with pc := t.pc + 1 } ws = (if vget t.regs a = 0 then { t with pc := b.toNat } else { t with pc := t.pc + 1 }, ws) := rfl
  rw [e]
  split <;> simp only [h0, Bool.false_or]
theorem vn_tell {code : List Op5} {t t' : Th} {ws : List Int} {a b c d : Int} (h0 : t.over = false) (h1 : code[t.pc]? = some ⟨16, a, b, c, d⟩) (hl : t.told.length ≠ 200) (ht : t' = { t with told := t.told ++ [vget t.regs a], pc := t.pc + 1, over := decide (t.pc + 1 = code.length) }) : vstep code t ws = (t', ws) := by
  rw [wsp_over code t ws _ h0 h1, ht]
  have e : vdo ⟨16, a, b, c, d⟩ { t with pc := t.pc + 1 } ws = (if t.told.length = 200 then { t with pc := t.pc + 1, err := 8, over := true } else { t with pc := t.pc + 1, told := t.told ++ [vget t.regs a] }, ws) := rfl
  rw [e, if_neg hl]
  simp only [h0, Bool.false_or]
theorem nsstep {n : Nat} (h1 : 1 ≤ n) (h4 : n ≤ 4) {t : Th} {ws : List Int} (h : NGet n t) (hw : ws.length = n) : vstep (nscanCode n) t ws = (snext n t ws, ws) := by
  obtain ⟨regs, pc, told, err, over⟩ := t
  obtain ⟨a1, a2, a3, a4, a5, a6, a7⟩ := h
  simp only at a1 a2 a3 a4 a5 a6 a7
  subst a1 a2
  have hlen := nscan_len h1 h4
  have wz : ∀ x : Int, 0 ≤ x → x ≤ 20 → wrap64 (0 + x) = x := fun x h0 h1 => by unfold wrap64; omega
  have ho := sop_at h1 h4 a3
  unfold sop at ho
  unfold snext
  simp only
  by_cases e0 : pc = 0
  · rw [if_pos e0] at ho ⊢
    refine vn_set (t := ⟨regs, pc, told, 0, false⟩) rfl ho ?_
    rw [hlen, decide_eq_false (by simp only; omega), e0]
  rw [if_neg e0] at ho ⊢
  by_cases e1 : pc < n + 1
  · rw [if_pos e1] at ho ⊢
    refine vs_load (t := ⟨regs, pc, told, 0, false⟩) (ad := ((pc - 1 : Nat) : Int)) rfl ho (by simp only; rw [a5]; exact wz _ (by omega) (by omega)) (by omega) (by omega) ?_
    rw [hlen, decide_eq_false (by simp only; omega)]
  rw [if_neg e1] at ho ⊢
  by_cases e2 : pc < 4 * n + 1
  · rw [if_pos e2] at ho ⊢
    by_cases e3 : (pc - (n + 1)) % 3 = 0
    · rw [if_pos e3] at ho ⊢
      refine vs_load (t := ⟨regs, pc, told, 0, false⟩) (ad := (((pc - (n + 1)) / 3 : Nat) : Int)) rfl ho (by simp only; rw [a5]; exact wz _ (by omega) (by omega)) (by omega) (by omega) ?_
      rw [hlen, decide_eq_false (by simp only; omega)]
    rw [if_neg e3] at ho ⊢
    by_cases e4 : (pc - (n + 1)) % 3 = 1
    · rw [if_pos e4] at ho ⊢
      refine vn_same (t := ⟨regs, pc, told, 0, false⟩) rfl ho ?_
      have hd : decide (pc + 1 = 6 * n + 1) = false := decide_eq_false (by omega)
      rw [hlen, hd]
    rw [if_neg e4] at ho ⊢
    refine vn_unless (t := ⟨regs, pc, told, 0, false⟩) rfl ho ?_
    rw [hlen, decide_eq_false (by simp only; split <;> omega)]
    rfl
  rw [if_neg e2] at ho ⊢
  by_cases e3 : (pc - (4 * n + 1)) % 2 = 0
  · rw [if_pos e3] at ho ⊢
    refine vn_rem (t := ⟨regs, pc, told, 0, false⟩) rfl ho (by simp only; rw [a6 (by omega)]; decide) ?_
    rw [hlen, decide_eq_false (by simp only; omega), show vget (Th.mk regs pc told 0 false).regs 0 = 1048576 from a6 (by omega)]
  rw [if_neg e3] at ho ⊢
  refine vn_tell (t := ⟨regs, pc, told, 0, false⟩) rfl ho (by simp only; omega) ?_
  rw [hlen]
theorem snext_keep {n : Nat} (h1 : 1 ≤ n) (h4 : n ≤ 4) {t : Th} (ws : List Int) (h : NGet n t) (ho : (snext n t ws).over = false) : NGet n (snext n t ws) ∧ ((snext n t ws).pc = t.pc + 1 ∨ (snext n t ws).pc = 1) := by
  obtain ⟨regs, pc, told, err, over⟩ := t
  obtain ⟨a1, a2, a3, a4, a5, a6, a7⟩ := h
  simp only at a1 a2 a3 a4 a5 a6 a7
  subst a1 a2
  have sl : ∀ (i x : Int), (vset regs i x).length = 24 := fun i x => by unfold vset; rw [List.length_set]; exact a4
  have hr : ∀ (i : Int) x, i.toNat ≠ 2 → i.toNat ≠ 0 → 1 ≤ pc → vget (vset regs i x) 2 = 0 ∧ (1 ≤ pc + 1 → vget (vset regs i x) 0 = 1048576) := fun i x h2 h0 hp => ⟨(nv_ne _ _ h2).trans a5, fun _ => (nv_ne _ _ h0).trans (a6 hp)⟩
  have har : ∀ i, (ar i : Int).toNat ≠ 2 ∧ (ar i : Int).toNat ≠ 0 := fun i => by unfold ar; split <;> omega
  unfold snext at ho ⊢
  simp only at ho ⊢
  by_cases e0 : pc = 0
  · rw [if_pos e0]
    exact ⟨⟨rfl, rfl, by show 1 < _; omega, sl _ _, (nv_ne _ _ (by decide)).trans a5, fun _ => nv_eq _ _ (by rw [a4]; decide), by simp only; omega⟩, .inr rfl⟩
  rw [if_neg e0] at ho ⊢
  by_cases e1 : pc < n + 1
  · rw [if_pos e1]
    obtain ⟨q1, q2⟩ := hr (ar (pc - 1)) (vget ws ((pc - 1 : Nat) : Int)) (har _).1 (har _).2 (by omega)
    exact ⟨⟨rfl, rfl, by show pc + 1 < _; omega, sl _ _, q1, q2, by simp only; omega⟩, .inl rfl⟩
  rw [if_neg e1] at ho ⊢
  by_cases e2 : pc < 4 * n + 1
  · rw [if_pos e2] at ho ⊢
    by_cases e3 : (pc - (n + 1)) % 3 = 0
    · rw [if_pos e3]
      obtain ⟨q1, q2⟩ := hr ((n : Int) + 2) (vget ws (((pc - (n + 1)) / 3 : Nat) : Int)) (by omega) (by omega) (by omega)
      exact ⟨⟨rfl, rfl, by show pc + 1 < _; omega, sl _ _, q1, q2, by simp only; omega⟩, .inl rfl⟩
    rw [if_neg e3] at ho ⊢
    by_cases e4 : (pc - (n + 1)) % 3 = 1
    · rw [if_pos e4]
      obtain ⟨q1, q2⟩ := hr ((n : Int) + 3) (vflag (decide (vget regs (ar ((pc - (n + 1)) / 3)) = vget regs ((n : Int) + 2)))) (by omega) (by omega) (by omega)
      exact ⟨⟨rfl, rfl, by show pc + 1 < _; omega, sl _ _, q1, q2, by simp only; omega⟩, .inl rfl⟩
    rw [if_neg e4] at ho ⊢
    by_cases hz : vget regs ((n : Int) + 3) = 0
    · rw [if_pos hz]; exact ⟨⟨rfl, rfl, by show 1 < _; omega, a4, a5, fun _ => a6 (by omega), by simp only; omega⟩, .inr rfl⟩
    · rw [if_neg hz]; exact ⟨⟨rfl, rfl, by show pc + 1 < _; omega, a4, a5, fun _ => a6 (by omega), by simp only; omega⟩, .inl rfl⟩
  rw [if_neg e2] at ho ⊢
  by_cases e3 : (pc - (4 * n + 1)) % 2 = 0
  · rw [if_pos e3]
    obtain ⟨q1, q2⟩ := hr ((n : Int) + 4) (Int.tmod (vget regs (ar ((pc - (4 * n + 1)) / 2))) 1048576) (by omega) (by omega) (by omega)
    exact ⟨⟨rfl, rfl, by show pc + 1 < _; omega, sl _ _, q1, q2, by simp only; omega⟩, .inl rfl⟩
  rw [if_neg e3] at ho ⊢
  have hp : ¬ pc + 1 = 6 * n + 1 := of_decide_eq_false ho
  exact ⟨⟨ho, rfl, by show pc + 1 < _; omega, a4, a5, fun _ => a6 (by omega), by simp only [List.length_append, List.length_cons, List.length_nil]; omega⟩, .inl rfl⟩
theorem snext_over {n : Nat} {t : Th} (ws : List Int) (h : NGet n t) (ho : (snext n t ws).over = true) : t.pc + 1 = 6 * n + 1 ∧ (snext n t ws).err = 0 := by
  obtain ⟨regs, pc, told, err, over⟩ := t
  obtain ⟨a1, a2, a3, a4, a5, a6, a7⟩ := h
  simp only at a1 a2 a3 a4 a5 a6 a7
  subst a1 a2
  unfold snext at ho ⊢
  simp only at ho ⊢
  by_cases e0 : pc = 0
  · rw [if_pos e0] at ho; cases ho
  rw [if_neg e0] at ho ⊢
  by_cases e1 : pc < n + 1
  · rw [if_pos e1] at ho; cases ho
  rw [if_neg e1] at ho ⊢
  by_cases e2 : pc < 4 * n + 1
  · rw [if_pos e2] at ho
    by_cases e3 : (pc - (n + 1)) % 3 = 0
    · rw [if_pos e3] at ho; cases ho
    rw [if_neg e3] at ho
    by_cases e4 : (pc - (n + 1)) % 3 = 1
    · rw [if_pos e4] at ho; cases ho
    rw [if_neg e4] at ho; cases ho
  rw [if_neg e2] at ho ⊢
  by_cases e3 : (pc - (4 * n + 1)) % 2 = 0
  · rw [if_pos e3] at ho; cases ho
  rw [if_neg e3] at ho ⊢
  exact ⟨of_decide_eq_true ho, rfl⟩
/-- a Scan that will not go back -/
structure SGd (n : Nat) (ws : List Int) (t : Th) : Prop where
  get : NGet n t
  p1 : 1 ≤ t.pc
  a : ∀ i : Nat, i < n → i + 1 < t.pc → vget t.regs (ar i) = vget ws i
  b : n + 1 ≤ t.pc → t.pc < 4 * n + 1 → (t.pc - (n + 1)) % 3 = 1 → vget t.regs ((n : Int) + 2) = vget ws (((t.pc - (n + 1)) / 3 : Nat) : Int)
  s : n + 1 ≤ t.pc → t.pc < 4 * n + 1 → (t.pc - (n + 1)) % 3 = 2 → vget t.regs ((n : Int) + 3) = 1
theorem SGd.next {n : Nat} (h1 : 1 ≤ n) (h4 : n ≤ 4) {t : Th} {ws : List Int} (h : SGd n ws t) (ho : (snext n t ws).over = false) : SGd n ws (snext n t ws) ∧ (snext n t ws).pc = t.pc + 1 := by
  have hk := (snext_keep h1 h4 ws h.get ho).1
  obtain ⟨regs, pc, told, err, over⟩ := t
  obtain ⟨⟨a1, a2, a3, a4, a5, a6, a7⟩, b1, b2, b3, b4⟩ := h
  simp only at a1 a2 a3 a4 a5 a6 a7 b1 b2 b3 b4
  subst a1 a2
  have har : ∀ i j : Nat, i ≠ j → (ar j : Int).toNat ≠ (ar i : Int).toNat := fun i j h => by unfold ar; split <;> split <;> omega
  have hal : ∀ i : Nat, i < n → (ar i : Int).toNat < 24 ∧ (ar i : Int).toNat < n + 2 := fun i h => by unfold ar; split <;> omega
  revert hk
  unfold snext
  simp only
  rw [if_neg (by omega)]
  by_cases e1 : pc < n + 1
  · rw [if_pos e1]; intro hk
    refine ⟨⟨hk, by simp only; omega, fun i hi hp => ?_, fun e3 e4 e5 => ?_, fun e3 e4 e5 => ?_⟩, rfl⟩
    · simp only at hp ⊢
      by_cases e : i = pc - 1
      · subst e
        exact nv_eq _ _ (by rw [a4]; exact (hal _ hi).1)
      · rw [nv_ne _ _ (har i (pc - 1) e)]
        exact b2 i hi (by omega)
    · simp only at e3 e4 e5; omega
    · simp only at e3 e4 e5; omega
  rw [if_neg e1]
  by_cases e2 : pc < 4 * n + 1
  · rw [if_pos e2]
    by_cases e3 : (pc - (n + 1)) % 3 = 0
    · rw [if_pos e3]; intro hk
      refine ⟨⟨hk, by simp only; omega, fun i hi hp => ?_, fun e4 e5 e6 => ?_, fun e4 e5 e6 => ?_⟩, rfl⟩
      · simp only at hp ⊢
        rw [nv_ne _ _ (by have := (hal i hi).2; omega)]
        exact b2 i hi (by omega)
      · simp only at e4 e5 e6 ⊢
        rw [show (pc + 1 - (n + 1)) / 3 = (pc - (n + 1)) / 3 by omega]
        exact nv_eq _ _ (by rw [a4]; omega)
      · simp only at e4 e5 e6; omega
    rw [if_neg e3]
    by_cases e4 : (pc - (n + 1)) % 3 = 1
    · rw [if_pos e4]; intro hk
      refine ⟨⟨hk, by simp only; omega, fun i hi hp => ?_, fun e5 e6 e7 => ?_, fun e5 e6 e7 => ?_⟩, rfl⟩
      · simp only at hp ⊢
        rw [nv_ne _ _ (by have := (hal i hi).2; omega)]
        exact b2 i hi (by omega)
      · simp only at e5 e6 e7; omega
      · simp only at e5 e6 e7 ⊢
        rw [b2 ((pc - (n + 1)) / 3) (by omega) (by omega), b3 (by omega) e2 e4, decide_eq_true rfl]
        exact nv_eq _ _ (by rw [a4]; omega)
    rw [if_neg e4, if_neg (by rw [b4 (by omega) e2 (by omega)]; decide)]; intro hk
    refine ⟨⟨hk, by simp only; omega, fun i hi hp => b2 i hi (by simp only at hp; omega), fun e5 e6 e7 => ?_, fun e5 e6 e7 => ?_⟩, rfl⟩
    · simp only at e5 e6 e7; omega
    · simp only at e5 e6 e7; omega
  rw [if_neg e2]
  by_cases e3 : (pc - (4 * n + 1)) % 2 = 0
  · rw [if_pos e3]; intro hk
    refine ⟨⟨hk, by simp only; omega, fun i hi hp => ?_, fun e5 e6 e7 => ?_, fun e5 e6 e7 => ?_⟩, rfl⟩
    · simp only at hp ⊢
      rw [nv_ne _ _ (by have := (hal i hi).2; omega)]
      exact b2 i hi (by omega)
    · simp only at e5 e6 e7; omega
    · simp only at e5 e6 e7; omega
  rw [if_neg e3]; intro hk
  refine ⟨⟨hk, by simp only; omega, fun i hi hp => b2 i hi (by simp only at hp; omega), fun e5 e6 e7 => ?_, fun e5 e6 e7 => ?_⟩, rfl⟩
  · simp only at e5 e6 e7; omega
  · simp only at e5 e6 e7; omega
theorem SGd.ends {n : Nat} (h1 : 1 ≤ n) (h4 : n ≤ 4) {ws : List Int} (hw : ws.length = n) : ∀ (q : Nat) (t : Th), SGd n ws t → 6 * n + 1 ≤ t.pc + q → ∃ m t', m ≤ q ∧ Ends (nscanCode n) t ws m t' ws ∧ t'.err = 0
  | 0, t, h, hq => by have := h.get.pc; omega
  | q + 1, t, h, hq => by
    have hs := nsstep h1 h4 h.get hw
    cases ho : (snext n t ws).over with
    | true => exact ⟨1, _, by omega, .last hs ho, (snext_over ws h.get ho).2⟩
    | false =>
      obtain ⟨g1, g2⟩ := h.next h1 h4 ho
      obtain ⟨m, t', m1, m2, m3⟩ := SGd.ends h1 h4 hw q _ g1 (by omega)
      exact ⟨m + 1, t', by omega, .more hs ho m2, m3⟩
theorem NGet.ends {n : Nat} (h1 : 1 ≤ n) (h4 : n ≤ 4) {ws : List Int} (hw : ws.length = n) : ∀ (q : Nat) (t : Th), NGet n t → 6 * n + 1 ≤ t.pc + q → ∃ m t', m ≤ q + 6 * n ∧ Ends (nscanCode n) t ws m t' ws ∧ t'.err = 0
  | 0, t, h, hq => by have := h.pc; omega
  | q + 1, t, h, hq => by
    have hs := nsstep h1 h4 h hw
    cases ho : (snext n t ws).over with
    | true => exact ⟨1, _, by omega, .last hs ho, (snext_over ws h ho).2⟩
    | false =>
      obtain ⟨g1, g2⟩ := snext_keep h1 h4 ws h ho
      rcases g2 with g2 | g2
      · obtain ⟨m, t', m1, m2, m3⟩ := NGet.ends h1 h4 hw q _ g1 (by omega)
        exact ⟨m + 1, t', by omega, .more hs ho m2, m3⟩
      · obtain ⟨m, t', m1, m2, m3⟩ := SGd.ends h1 h4 hw (6 * n) (snext n t ws) ⟨g1, by omega, fun i _ h => absurd h (by omega), fun h => absurd h (by omega), fun h => absurd h (by omega)⟩ (by omega)
        exact ⟨m + 1, t', by omega, .more hs ho m2, m3⟩
end Go.Proofs.YtabmkjokeeakdaaDoor
