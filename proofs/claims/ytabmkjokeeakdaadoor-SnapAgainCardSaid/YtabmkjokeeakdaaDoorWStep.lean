/-
  Steps of a thread that loads and stores words. Written by gen_steps.py.
-/
import Derived.Test.YtabmkjokeeakdaaDoorVmMath
namespace Go.Proofs.YtabmkjokeeakdaaDoor
open Go.RowKit
set_option linter.unusedVariables false

/-! ### words, one step each -/
theorem wsp_over (code : List Op5) (t : Th) (ws : List Int) (o : Op5) (h0 : t.over = false) (h1 : code[t.pc]? = some o) : vstep code t ws = ({ (vdo o { t with pc := t.pc + 1 } ws).1 with over := (vdo o { t with pc := t.pc + 1 } ws).1.over || decide ((vdo o { t with pc := t.pc + 1 } ws).1.pc = code.length) }, (vdo o { t with pc := t.pc + 1 } ws).2) := by
  unfold vstep
  rw [if_neg (by rw [h0]; decide), h1]
theorem vs_load {code : List Op5} {t t' : Th} {ws : List Int} {a b c d ad : Int} (h0 : t.over = false) (h1 : code[t.pc]? = some ⟨13, a, b, c, d⟩) (ha : wrap64 (vget t.regs b + c) = ad) (hl : 0 ≤ ad) (hu : ad < (ws.length : Int))
    (ht : t' = { t with regs := vset t.regs a (vget ws ad), pc := t.pc + 1, over := decide (t.pc + 1 = code.length) }) : vstep code t ws = (t', ws) := by
  rw [wsp_over code t ws _ h0 h1, ht]
  have e : vdo ⟨13, a, b, c, d⟩ { t with pc := t.pc + 1 } ws = (if wrap64 (vget t.regs b + c) < 0 ∨ (ws.length : Int) ≤ wrap64 (vget t.regs b + c) then ({ t with pc := t.pc + 1, err := 2, over := true }, ws) else ({ t with pc := t.pc + 1, regs := vset t.regs a (vget ws (wrap64 (vget t.regs b + c))) }, ws)) := rfl
  rw [e, ha, if_neg (by omega)]
  simp only [h0, Bool.false_or]
theorem vs_store {code : List Op5} {t t' : Th} {ws : List Int} {a b c d ad : Int} (h0 : t.over = false) (h1 : code[t.pc]? = some ⟨14, a, b, c, d⟩) (ha : wrap64 (vget t.regs b + c) = ad) (hl : 0 ≤ ad) (hu : ad < (ws.length : Int))
    (ht : t' = { t with pc := t.pc + 1, over := decide (t.pc + 1 = code.length) }) : vstep code t ws = (t', vset ws ad (vget t.regs a)) := by
  rw [wsp_over code t ws _ h0 h1, ht]
  have e : vdo ⟨14, a, b, c, d⟩ { t with pc := t.pc + 1 } ws = (if wrap64 (vget t.regs b + c) < 0 ∨ (ws.length : Int) ≤ wrap64 (vget t.regs b + c) then ({ t with pc := t.pc + 1, err := 2, over := true }, ws) else ({ t with pc := t.pc + 1 }, vset ws (wrap64 (vget t.regs b + c)) (vget t.regs a))) := rfl
  rw [e, ha, if_neg (by omega)]
  simp only [h0, Bool.false_or]
theorem wsp_cas (t : Th) (ws : List Int) (a b c d : Int) : vdo ⟨15, a, b, c, d⟩ t ws = (if wrap64 (vget t.regs b + c) < 0 ∨ (ws.length : Int) ≤ wrap64 (vget t.regs b + c) then ({ t with err := 2, over := true }, ws) else if vget ws (wrap64 (vget t.regs b + c)) = vget t.regs d then ({ t with regs := vset t.regs a 1 }, vset ws (wrap64 (vget t.regs b + c)) (vget t.regs a)) else ({ t with regs := vset t.regs a 0 }, ws)) := rfl
theorem vs_casy {code : List Op5} {t t' : Th} {ws : List Int} {a b c d ad : Int} (h0 : t.over = false) (h1 : code[t.pc]? = some ⟨15, a, b, c, d⟩) (ha : wrap64 (vget t.regs b + c) = ad) (hl : 0 ≤ ad) (hu : ad < (ws.length : Int)) (he : vget ws ad = vget t.regs d)
    (ht : t' = { t with regs := vset t.regs a 1, pc := t.pc + 1, over := decide (t.pc + 1 = code.length) }) : vstep code t ws = (t', vset ws ad (vget t.regs a)) := by
  rw [wsp_over code t ws _ h0 h1, ht, wsp_cas]
  simp only [ha]
  rw [if_neg (by omega), if_pos he]
  simp only [h0, Bool.false_or]
theorem vs_casn {code : List Op5} {t t' : Th} {ws : List Int} {a b c d ad : Int} (h0 : t.over = false) (h1 : code[t.pc]? = some ⟨15, a, b, c, d⟩) (ha : wrap64 (vget t.regs b + c) = ad) (hl : 0 ≤ ad) (hu : ad < (ws.length : Int)) (he : vget ws ad ≠ vget t.regs d)
    (ht : t' = { t with regs := vset t.regs a 0, pc := t.pc + 1, over := decide (t.pc + 1 = code.length) }) : vstep code t ws = (t', ws) := by
  rw [wsp_over code t ws _ h0 h1, ht, wsp_cas]
  simp only [ha]
  rw [if_neg (by omega), if_neg he]
  simp only [h0, Bool.false_or]
end Go.Proofs.YtabmkjokeeakdaaDoor
