/-
  A region whose order is drawn, by a relation that each operation keeps.
-/
import Derived.Test.YtabmkjokeeakdaaDoorBase
import Derived.Deep.RegionLaw
namespace Go.Proofs.YtabmkjokeeakdaaDoor
open Go.RowKit
set_option linter.unusedVariables false

/-- what an operation waits for -/
def waits (ops : Array Oper) (j : Nat) : List Nat := ((ops[j]?).map fun o => (o.after.toList.filter (Region.binds .any ·)).map (·.on)).getD []
theorem count_set_true : ∀ (l : List Bool) (j : Nat), l[j]? = some false → (l.set j true).count false + 1 = l.count false
  | [], j, h => by simp at h
  | b :: l, 0, h => by
    simp at h; subst h
    simp
  | b :: l, j + 1, h => by
    have ih := count_set_true l j (by simpa using h)
    rw [List.set_cons_succ, List.count_cons, List.count_cons]; omega
section
variable {P : Program} {ops : Array Oper} {Q : Exit → Act → World → Prop}
theorem wpAny_inv (R : (Nat → Bool) → Act → World → Prop) (hlt : (List.range ops.size).all (fun j => (waits ops j).all (fun i => decide (i < j))) = true)
    (hstep : ∀ j, j < ops.size → ∀ L a w, R L a w → L j = false → (∀ k, k < ops.size → L k = true → ∀ i ∈ waits ops k, L i = true) → (∀ i ∈ waits ops j, L i = true) → wpOp P ops Q j (R (fun i => i == j || L i)) a w)
    (hend : ∀ L a w, R L a w → (∀ j, j < ops.size → L j = true) → Q .normal a w) :
    ∀ (fuel : Nat) (listed : Array Bool) (a : Act) (w : World), listed.size = ops.size → (∀ k, k < ops.size → listed.getD k false = true → ∀ i ∈ waits ops k, listed.getD i false = true) → listed.toList.count false ≤ fuel → R (fun i => listed.getD i false) a w → wpAny P .any ops Q fuel listed a w := by
  have hlt' : ∀ j, j < ops.size → ∀ i ∈ waits ops j, i < j := by
    intro j hj i hi
    have h1 := List.all_eq_true.1 hlt j (List.mem_range.2 hj)
    have h2 := List.all_eq_true.1 h1 i hi
    simpa using h2
  have hin : ∀ (listed : Array Bool) (j : Nat), listed.size = ops.size → j < ops.size → listed.getD j true = listed.getD j false := by
    intro listed j hs hj
    rw [Array.getD_eq_getD_getElem?, Array.getD_eq_getD_getElem?, Array.getElem?_eq_getElem (by omega)]; rfl
  have hready : ∀ (listed : Array Bool) (j : Nat), listed.size = ops.size → j < ops.size → listed.getD j false = false → (∀ i ∈ waits ops j, listed.getD i false = true) → j ∈ Region.ready .any ops listed := by
    intro listed j hs hj h0 h1
    rw [mem_ready]
    refine ⟨by rw [hin listed j hs hj]; exact h0, ops[j], Array.getElem?_eq_getElem hj, fun e he hb => h1 e.on ?_⟩
    unfold waits
    rw [Array.getElem?_eq_getElem hj]
    simp only [Option.map_some, Option.getD_some, List.mem_map, List.mem_filter]
    exact ⟨e, ⟨Array.mem_toList_iff.2 he, hb⟩, rfl⟩
  have hall : ∀ (listed : Array Bool), listed.size = ops.size → Region.ready .any ops listed = [] → ∀ j, j < ops.size → listed.getD j false = true := by
    intro listed hs hr j
    induction j using Nat.strongRecOn with
    | _ j ih =>
      intro hj
      cases h : listed.getD j false with
      | true => rfl
      | false =>
        have := hready listed j hs hj h (fun i hi => ih i (hlt' j hj i hi) (by have := hlt' j hj i hi; omega))
        rw [hr] at this; cases this
  have hmem : ∀ (listed : Array Bool) (j : Nat), j ∈ Region.ready .any ops listed → listed.size = ops.size → j < ops.size ∧ listed.getD j false = false ∧ (∀ i ∈ waits ops j, listed.getD i false = true) := by
    intro listed j h hs
    obtain ⟨h0, o, ho, h1⟩ := mem_ready.1 h
    have hj : j < ops.size := (Array.getElem?_eq_some_iff.1 ho).1
    refine ⟨hj, by rw [← hin listed j hs hj]; exact h0, fun i hi => ?_⟩
    unfold waits at hi
    rw [ho] at hi
    simp only [Option.map_some, Option.getD_some, List.mem_map, List.mem_filter] at hi
    obtain ⟨e, ⟨he, hb⟩, rfl⟩ := hi
    exact h1 e (Array.mem_toList_iff.1 he) hb
  intro fuel
  induction fuel with
  | zero =>
    intro listed a w hs hcl hc hR
    have hr : Region.ready .any ops listed = [] := by
      cases h : Region.ready .any ops listed with
      | nil => rfl
      | cons x xs =>
        obtain ⟨hj, h0, _⟩ := hmem listed x (by rw [h]; exact List.mem_cons_self) hs
        have : false ∈ listed.toList := by
          rw [Array.getD_eq_getD_getElem?, Array.getElem?_eq_getElem (by omega)] at h0
          have h0' : listed[x] = false := h0
          rw [← h0']; exact Array.mem_toList_iff.2 (Array.getElem_mem _)
        have := List.count_pos_iff.2 this
        omega
    exact ⟨hr, hend _ a w hR (hall listed hs hr)⟩
  | succ fuel ih =>
    intro listed a w hs hcl hc hR
    refine ⟨fun hr => hend _ a w hR (hall listed hs hr), fun i hi => ?_⟩
    obtain ⟨hj, h0, h1⟩ := hmem listed i hi hs
    refine wpOp_mono (fun a' w' h => ih (listed.setIfInBounds i true) a' w' (by simpa using hs) ?_ ?_ ?_) (hstep i hj _ a w hR h0 hcl h1)
    · intro k hk hkl u hu
      by_cases hki : k = i
      · subst hki
        exact getD_set_true (h1 u hu)
      · rw [getD_set_ne false (fun e => hki e.symm)] at hkl
        exact getD_set_true (hcl k hk hkl u hu)
    · have hg : listed.toList[i]? = some false := by
        rw [Array.getElem?_toList, Array.getElem?_eq_getElem (by omega)]
        rw [Array.getD_eq_getD_getElem?, Array.getElem?_eq_getElem (by omega)] at h0
        exact congrArg some h0
      have := count_set_true _ _ hg
      rw [Array.toList_setIfInBounds]; omega
    · have e : (fun k => (listed.setIfInBounds i true).getD k false) = fun k => k == i || listed.getD k false := by
        funext k
        by_cases hk : k = i
        · subst hk
          rw [Array.getD_eq_getD_getElem?, Array.getElem?_setIfInBounds_self_of_lt (by omega)]; simp
        · rw [getD_set_ne false (fun e => hk e.symm)]
          simp [hk]
      rw [e]; exact h
theorem wp_region_inv {id : Nat} {a : Act} {w : World} (hm : P.follows .mixedOrders = true) (R : Act → (Nat → Bool) → Act → World → Prop) (hlt : (List.range ops.size).all (fun j => (waits ops j).all (fun i => decide (i < j))) = true)
    (h0 : R a (fun _ => false) a w.drew)
    (hstep : ∀ j, j < ops.size → ∀ L b w, R a L b w → L j = false → (∀ k i, (waits ops k).contains i = true → L k = true → L i = true) → (∀ i, (waits ops j).contains i = true → L i = true) → wpOp P ops Q j (R a (fun i => i == j || L i)) b w)
    (hend : ∀ L b w, R a L b w → (∀ j, j < ops.size → L j = true) → Q .normal b w) : (Code.region id ops true).wp P Q a w := by
  have e : (fun i => (Array.replicate ops.size false).getD i false) = fun _ => false := by
    funext i
    rw [Array.getD_eq_getD_getElem?, Array.getElem?_replicate]
    split <;> rfl
  have hstep' : ∀ j, j < ops.size → ∀ L b w, R a L b w → L j = false → (∀ k, k < ops.size → L k = true → ∀ i ∈ waits ops k, L i = true) → (∀ i ∈ waits ops j, L i = true) → wpOp P ops Q j (R a (fun i => i == j || L i)) b w := by
    intro j hj L b w hR hL hcl hpre
    refine hstep j hj L b w hR hL (fun k i hi hk => ?_) (fun i hi => hpre i (List.contains_iff_mem.1 hi))
    by_cases hks : k < ops.size
    · exact hcl k hks hk i (List.contains_iff_mem.1 hi)
    · unfold waits at hi
      rw [Array.getElem?_eq_none (by omega)] at hi
      simp at hi
  refine wp_region_any hm (wpAny_inv (R a) hlt hstep' hend _ _ _ _ (by simp) ?_ ?_ ?_)
  · intro k _ hk
    have := congrFun e k
    rw [this] at hk; cases hk
  · rw [Array.toList_replicate]
    exact Nat.le_trans List.count_le_length (by simp)
  · rw [e]; exact h0
/-- one operation -/
theorem wpOp_at {j : Nat} {o : Oper} {K' : Act → World → Prop} {a : Act} {w : World} (ho : ops[j]? = some o) (hw : Region.wanted o (yielded ops a.tmps) = true) (h : ∀ K : Act → World → Prop, (∀ a w, K' a w → K a w) → o.wp P a w K Q) : wpOp P ops Q j K' a w := by
  unfold wpOp
  rw [ho]
  simp only [hw, if_true]
  exact .inl (h K' fun _ _ h => h)
end
end Go.Proofs.YtabmkjokeeakdaaDoor
