/-
  What a row's list of variables gives: the cells of a table of strings; the facts of the seat's own table of shapes.
-/
import Derived.Test.YtabmkjokeeakdaaDoorVmMay
import Derived.ProofKit
import Derived.OpenShut
import Derived.LaidLaws
namespace Go.Proofs.YtabmkjokeeakdaaDoor
open Go.RowKit Go.ChangeShapes Go.WideShapes
set_option linter.unusedVariables false

section
variable {H : Type} {enc : TypeId × Value → H} {P : Program} {w : World} {base : Nat} {spare : Nat → Bool} {held : Bool}
theorem string_cells {t e : TypeId} {n : Nat} {fuel : Nat} {cs : List Value} {p : List MemPlace} (zs : List (List UInt8)) (ht : P.underlying t = some (.array n e)) (he : P.underlying e = some .string) (hce : P.cellsOf e = 1) (hct : P.cellsOf t = n)
    (h : DataW.trod enc P w base spare held fuel t cs = some (.agg (zs.map fun z => .lit (.string z)), p)) : cs = zs.map fun z => Value.string ⟨z.toArray⟩ := by
  obtain ⟨xs, m, _, hx, hlen, hxl, hi⟩ := DataW.trod_array ht h
  simp only [Prod.mk.injEq, DataW.agg.injEq] at hx
  obtain ⟨hx, _⟩ := hx
  have hzl : zs.length = n := by
    have := congrArg List.length hx
    rw [List.length_map, List.length_map] at this
    omega
  apply List.ext_getElem?
  intro q
  by_cases hq : q < n
  · have hr : zs[q]? = some zs[q] := List.getElem?_eq_getElem (by omega)
    have hxi : xs[q]? = some xs[q] := List.getElem?_eq_getElem (by omega)
    have hti := hi _ hq
    rw [hxi, hce] at hti
    obtain ⟨s, hs1, hs2, _⟩ := DataW.trod_string he hti
    have hx1 : (xs[q]).1 = .lit (.string zs[q]) := by
      have : (xs.map (·.1))[q]? = (zs.map fun z => (DataW.lit (.string z) : DataW H))[q]? := by rw [hx]
      rw [List.getElem?_map, List.getElem?_map, hxi, hr] at this
      simpa using this
    rw [hs2] at hx1
    simp only [DataW.lit.injEq, Lit.string.injEq] at hx1
    have hcq : cs[q]? = some (.string s) := by
      have h1 : ((cs.drop (q * 1)).take 1)[0]? = some (Value.string s) := by rw [hs1]; rfl
      rw [List.getElem?_take, if_pos (by decide), List.getElem?_drop, Nat.mul_one, Nat.add_zero] at h1
      exact h1
    rw [hcq, List.getElem?_map, hr]
    have : s = ⟨zs[q].toArray⟩ := by
      obtain ⟨d⟩ := s
      congr 1
      apply Array.ext'
      rw [← hx1]
    rw [this]; rfl
  · rw [List.getElem?_eq_none (by rw [hlen, hct]; omega), List.getElem?_eq_none (by rw [List.length_map]; omega)]
end
theorem stab_of_laid {W : World} (h : laidMetH Tryd.prog [("barograph/vm.shapes", Rows.laid_barograph_vm_shapes)] W) : STab W := by
  have h' : laidMet Tryd.prog [("barograph/vm.shapes", Rows.laid_barograph_vm_shapes)] W := h
  obtain ⟨ps, ⟨g', t', cs, fuel, p, q, hg', ht', hvar, hd, _, _⟩, _⟩ := h'
  have hg : Tryd.prog.globalNamed "barograph/vm.shapes" = some 0 := by kernel_rfl
  have hty : (Tryd.prog.globals[0]?).map (·.type) = some 117 := by kernel_rfl
  obtain rfl := Option.some.inj (hg.symm.trans hg')
  obtain rfl := Option.some.inj (hty.symm.trans ht')
  have hcs := string_cells [[], [114, 110, 45, 45], [114, 114, 45, 45], [114, 114, 114, 45], [114, 114, 114, 45], [114, 114, 114, 45], [114, 114, 114, 45], [114, 114, 114, 45], [114, 114, 114, 45], [114, 114, 114, 45], [112, 45, 45, 45], [114, 112, 45, 45], [114, 112, 45, 45], [114, 114, 110, 45], [114, 114, 110, 45], [114, 114, 110, 114], [114, 45, 45, 45], [45, 45, 45, 45]]
    Tryd.underlying117 Tryd.underlying9 (by kernel_rfl) (by kernel_rfl) hd
  unfold World.var? at hvar
  rw [hg] at hvar
  simp only [Option.bind_some] at hvar
  split at hvar
  · rename_i c t fr hh
    injection hvar with hvar
    refine ⟨t, fr, ?_⟩
    rw [hh, hvar]
    have : cs = stab := by
      apply Array.ext'
      exact hcs
    rw [this]
  · cases hvar
end Go.Proofs.YtabmkjokeeakdaaDoor
