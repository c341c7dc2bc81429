/-
  What a row's list of variables gives: the cells of a table of small structs of integers; and the facts of the seat's own table.
-/
import Derived.Test.YtifpnfhmemdljaaDoorZig
import Derived.ProofKit
import Derived.OpenShut
import Derived.LaidLaws
namespace Go.Proofs.YtifpnfhmemdljaaDoor
open Go.RowKit Go.ChangeShapes Go.WideShapes
set_option linter.unusedVariables false

section
variable {H : Type} {enc : TypeId × Value → H} {P : Program} {w : World} {base : Nat} {spare : Nat → Bool} {held : Bool}
theorem grid_cells {t e : TypeId} {n k : Nat} {fs : Array Field} {fuel : Nat} {cs : List Value} {p : List MemPlace} (zs : List (List Int)) (ht : P.underlying t = some (.array n e)) (he : P.underlying e = some (.struct fs)) (hk : fs.size = k) (h0 : 0 < k) (hce : P.cellsOf e = k) (hct : P.cellsOf t = n * k)
    (hf : ∀ j, j < k → ∃ f, fs[j]? = some f ∧ f.offset = j ∧ P.underlying f.type = some (.int .i64) ∧ P.cellsOf f.type = 1) (hzs : ∀ r ∈ zs, r.length = k)
    (h : DataW.trod enc P w base spare held fuel t cs = some (.agg (zs.map fun r => .agg (r.map fun z => .lit (.int .i64 z))), p)) : cs = zs.flatMap fun r => r.map fun z => Value.int .i64 z := by
  obtain ⟨xs, m, _, hx, hlen, hxl, hi⟩ := DataW.trod_array ht h
  simp only [Prod.mk.injEq, DataW.agg.injEq] at hx
  obtain ⟨hx, _⟩ := hx
  have hzl : zs.length = n := by
    have := congrArg List.length hx
    rw [List.length_map, List.length_map] at this
    omega
  have hfl : (zs.flatMap fun r => r.map fun z => Value.int .i64 z).length = n * k := by
    have : ∀ l : List (List Int), (∀ r ∈ l, r.length = k) → (l.flatMap fun r => r.map fun z => Value.int .i64 z).length = l.length * k := by
      intro l
      induction l with
      | nil => intro _; simp
      | cons r l ih =>
        intro hl
        rw [List.flatMap_cons, List.length_append, List.length_map, hl r (List.mem_cons_self ..), ih fun x hx => hl x (List.mem_cons_of_mem _ hx), List.length_cons, Nat.add_mul]; omega
    rw [this zs hzs, hzl]
  have hat : ∀ l : List (List Int), (∀ r ∈ l, r.length = k) → ∀ i r, l[i]? = some r → ∀ j, j < k → (l.flatMap fun r => r.map fun z => Value.int .i64 z)[i * k + j]? = (r[j]?).map fun z => Value.int .i64 z := by
    intro l
    induction l with
    | nil => intro _ i r h; simp at h
    | cons r0 l ih =>
      intro hl i r hr j hj
      have h0 := hl r0 (List.mem_cons_self ..)
      cases i with
      | zero =>
        simp at hr; subst hr
        rw [List.flatMap_cons, Nat.zero_mul, Nat.zero_add, List.getElem?_append_left (by rw [List.length_map, h0]; exact hj), List.getElem?_map]
      | succ i =>
        simp at hr
        rw [List.flatMap_cons, List.getElem?_append_right (by rw [List.length_map, h0, Nat.add_mul]; omega), List.length_map, h0, show (i + 1) * k + j - k = i * k + j by rw [Nat.add_mul]; omega]
        exact ih (fun x hx => hl x (List.mem_cons_of_mem _ hx)) i r hr j hj
  apply List.ext_getElem?
  intro q
  by_cases hq : q < n * k
  · have hqi : q / k < n := Nat.div_lt_of_lt_mul (by rw [Nat.mul_comm]; exact hq)
    have hqj : q % k < k := Nat.mod_lt _ h0
    have hqe : q = q / k * k + q % k := by rw [Nat.mul_comm]; exact (Nat.div_add_mod q k).symm
    have hr : zs[q / k]? = some zs[q / k] := List.getElem?_eq_getElem (by omega)
    have hxi : xs[q / k]? = some xs[q / k] := List.getElem?_eq_getElem (by omega)
    have hti := hi _ hqi
    rw [hxi, hce] at hti
    have hx1 : (xs[q / k]).1 = .agg (zs[q / k].map fun z => .lit (.int .i64 z)) := by
      have : (xs.map (·.1))[q / k]? = (zs.map fun r => (DataW.agg (r.map fun z => DataW.lit (.int .i64 z)) : DataW H))[q / k]? := by rw [hx]
      rw [List.getElem?_map, List.getElem?_map, hxi, hr] at this
      simpa using this
    obtain ⟨ys, m2, _, hy, hyl, hys, hfd⟩ := DataW.trod_struct he hti
    obtain ⟨f, hf1, hf2, hf3, hf4⟩ := hf (q % k) hqj
    have hfd := hfd _ f hf1
    have hysl : ys.length = k := by rw [hys, hk]
    have hyj : ys[q % k]? = some ys[q % k] := List.getElem?_eq_getElem (by omega)
    rw [hf2, hf4, hyj] at hfd
    obtain ⟨z, hz1, hz2, _⟩ := DataW.trod_int hf3 hfd
    have hcq : cs[q]? = some (.int .i64 z) := by
      have : (((cs.drop (q / k * k)).take k).drop (q % k)).take 1 = [Value.int .i64 z] := hz1
      have h1 : ((((cs.drop (q / k * k)).take k).drop (q % k)).take 1)[0]? = some (Value.int .i64 z) := by rw [this]; rfl
      rw [List.getElem?_take, if_pos (by decide), List.getElem?_drop, List.getElem?_take, if_pos (by omega), List.getElem?_drop] at h1
      rw [hqe]; exact h1
    rw [hcq, hqe, hat zs hzs _ _ hr _ hqj]
    rw [hy] at hx1
    simp only [DataW.agg.injEq] at hx1
    have h2 : (ys.map (·.1))[q % k]? = (zs[q / k].map fun z => (DataW.lit (.int .i64 z) : DataW H))[q % k]? := by rw [hx1]
    have hrl : zs[q / k].length = k := hzs _ (List.getElem_mem _)
    have hzj : zs[q / k][q % k]? = some (zs[q / k][q % k]'(by omega)) := List.getElem?_eq_getElem (by omega)
    rw [List.getElem?_map, List.getElem?_map, hyj, hzj, hz2] at h2
    simp only [Option.map_some, Option.some.injEq, DataW.lit.injEq, Lit.int.injEq] at h2
    rw [hzj]
    simp [h2.2]
  · rw [List.getElem?_eq_none (by rw [hlen, hct]; omega), List.getElem?_eq_none (by rw [hfl]; omega)]
end

theorem ztab_of_laid {W : World} (h : laidMetH Tryd.prog [("barograph/zig.classes", Rows.laid_barograph_zig_classes)] W) : ZTab W := by
  have h' : laidMet Tryd.prog [("barograph/zig.classes", Rows.laid_barograph_zig_classes)] W := h
  obtain ⟨ps, ⟨g', t', cs, fuel, p, q, hg', ht', hvar, hd, _, _⟩, _⟩ := h'
  have hg : Tryd.prog.globalNamed "barograph/zig.classes" = some 0 := by kernel_rfl
  have hty : (Tryd.prog.globals[0]?).map (·.type) = some 86 := by kernel_rfl
  obtain rfl := Option.some.inj (hg.symm.trans hg')
  obtain rfl := Option.some.inj (hty.symm.trans ht')
  have hcs := grid_cells (k := 3) [[0, 1, 0], [2, 2, 6], [6, 3, 12], [14, 4, 24], [15, 4, 59]] Tryd.underlying86 Tryd.underlying71 rfl (by decide) (by kernel_rfl) (by kernel_rfl)
    (fun j hj => by
      match j, hj with
      | 0, _ => exact ⟨_, rfl, rfl, by kernel_rfl, by kernel_rfl⟩
      | 1, _ => exact ⟨_, rfl, rfl, by kernel_rfl, by kernel_rfl⟩
      | 2, _ => exact ⟨_, rfl, rfl, by kernel_rfl, by kernel_rfl⟩)
    (by decide) hd
  unfold World.var? at hvar
  rw [hg] at hvar
  simp only [Option.bind_some] at hvar
  split at hvar
  · rename_i c t fr hh
    injection hvar with hvar
    refine ⟨t, fr, ?_⟩
    rw [hh, hvar]
    have : cs = ztab := by
      apply Array.ext'
      exact hcs
    rw [this]
  · cases hvar
end Go.Proofs.YtifpnfhmemdljaaDoor
