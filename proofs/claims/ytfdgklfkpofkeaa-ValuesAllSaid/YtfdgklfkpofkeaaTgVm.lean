/-
  tags.Values, the plain part: what the map of counts holds while the index is ranged over.
-/
import Derived.Test.YtfdgklfkpofkeaaTgIdx
import Derived.Test.YtfdgklfkpofkeaaMapR
namespace Go.Proofs.Ytfdgklfkpofkeaa
open Go.RowKit Go.Maps
set_option linter.unusedVariables false

/-- how many series have a tag -/
def cntT (ns : List Nat) (t : Nat × Nat) : Nat := ((List.range ns.length).filter fun q => hasT (ns.getD q 0) t).length
theorem cntT_le (ns : List Nat) (t : Nat × Nat) : cntT ns t ≤ ns.length := by unfold cntT; exact Nat.le_trans (List.length_filter_le _ _) (by simp)
/-- what a look-up in the index tells of lengths -/
structure ValF (ns : List Nat) (f : Lit → Option Value) : Prop where
  dn : ∀ kl v, f kl = some v → ∃ t, TOk t ∧ keyOf Try.prog 43 (tagV t) = some kl ∧ ∃ A c, v = .slice A (cntT ns t) c ∧ cntT ns t ≠ 0
  up : ∀ t, TOk t → ∀ kl, keyOf Try.prog 43 (tagV t) = some kl → cntT ns t ≠ 0 → (f kl).isSome = true
set_option maxRecDepth 100000 in
theorem ValF.of {w : World} {mb : Nat} {ns : List Nat} (h : IdxAt2 w mb ns) : ∃ (N : Nat) (f : Lit → Option Value), MapV w Try.prog 43 mb N f ∧ ValF ns f ∧ N ≤ 30000 := by
  obtain ⟨N, f, h1, h2, h3, h4⟩ := h
  have hlen : ∀ u A n, Sl w 1 A n (ints (castL ((List.range ns.length).filter fun q => hasT (ns.getD q 0) u))) → n = cntT ns u := fun u A n hs => by
    have := hs.leni; rw [castL_len] at this; exact this.symm
  refine ⟨N, f, h1, ⟨fun kl v hv => ?_, fun t ht kl hk hc => ?_⟩, h4⟩
  · obtain ⟨t, ht, hk, hne⟩ := h3 kl v hv
    obtain ⟨A, n, c, e, hs⟩ := h2 t ht kl hk
    rw [hv] at e
    have e : v = .slice A n c := e
    have hn := hlen t A n hs
    subst hn
    exact ⟨t, ht, hk, A, c, e, fun h0 => hne (List.length_eq_zero_iff.1 h0)⟩
  · obtain ⟨A, n, c, e, hs⟩ := h2 t ht kl hk
    cases hf : f kl with
    | some v => rfl
    | none =>
      rw [hf] at e
      have e : Value.slice none 0 0 = .slice A n c := e
      injection e with _ e2 _
      exact (hc (by rw [← hlen t A n hs]; exact e2.symm)).elim
/-- a value's bytes -/
def vB (j : Nat) : List UInt8 := (vS j).data.toList
theorem vB_inj : ∀ a < 4, ∀ b < 4, vB a = vB b → a = b := by decide +kernel
theorem keyS {j : Nat} (h : j < 4) : keyOf Try.prog 9 (.string (vS j)) = some (.string (vB j)) := by
  have : j = 0 ∨ j = 1 ∨ j = 2 ∨ j = 3 := by omega
  rcases this with rfl | rfl | rfl | rfl <;> (simp [keyOf, Try.underlying9, mapKey, vB, vS, maxLen]; exact if_pos (by decide))
theorem kStr : Keyed Try.prog 9 := string_keyed Try.underlying9
/-- the counts, while the index is ranged over -/
structure CntI (ns : List Nat) (k : Nat) (f f2 : Lit → Option Value) (left : Lit → Bool) : Prop where
  one : ∀ j, 1 ≤ j → j < 4 → ∀ kl, keyOf Try.prog 43 (tagV (k, j)) = some kl → f2 (.string (vB j)) = if (f kl).isSome = true ∧ left kl = false then some (.int .i64 (cntT ns (k, j) : Int)) else none
  dom : ∀ kl v, f2 kl = some v → ∃ j, 1 ≤ j ∧ j < 4 ∧ kl = .string (vB j)
theorem CntI.start {ns : List Nat} {k : Nat} {f : Lit → Option Value} {left : Lit → Bool} (hl : ∀ kl, left kl = (f kl).isSome) : CntI ns k f (fun _ => none) left :=
  ⟨fun j _ _ kl _ => (by rw [if_neg]; rintro ⟨h1, h2⟩; rw [hl, h1] at h2; cases h2), fun kl v h => by cases h⟩
theorem left_other {left : Lit → Bool} {kl kl' : Lit} (h : kl' ≠ kl) : (left kl' && !kl'.sameKey kl) = left kl' := by rw [sameKey_ne h]; simp
theorem CntI.skip {ns : List Nat} {k : Nat} {f f2 : Lit → Option Value} {left : Lit → Bool} (h : CntI ns k f f2 left) (hk3 : k < 3) {t : Nat × Nat} (ht : TOk t) {kl : Lit} (hk : keyOf Try.prog 43 (tagV t) = some kl) (hne : t.1 ≠ k ∨ t.2 = 0) : CntI ns k f f2 (fun z => left z && !z.sameKey kl) := by
  refine ⟨fun j h1 h4 kl' hk' => ?_, h.dom⟩
  have hd : kl' ≠ kl := by
    rintro rfl
    have := tagV_inj ⟨hk3, h4⟩ ht (kT.inj hk' hk)
    subst this
    rcases hne with h | h
    · exact h rfl
    · have h : j = 0 := h
      omega
  show _ = if _ ∧ (left kl' && !kl'.sameKey kl) = false then _ else _
  rw [left_other hd]
  exact h.one j h1 h4 kl' hk'
set_option maxRecDepth 100000 in
theorem CntI.put {ns : List Nat} {k : Nat} {f f2 : Lit → Option Value} {left : Lit → Bool} (h : CntI ns k f f2 left) (hk3 : k < 3) {j : Nat} (hj1 : 1 ≤ j) (hj4 : j < 4) {kl : Lit} (hk : keyOf Try.prog 43 (tagV (k, j)) = some kl) (hs : (f kl).isSome = true) :
    CntI ns k f (updV f2 (.string (vB j)) (.int .i64 (cntT ns (k, j) : Int))) (fun z => left z && !z.sameKey kl) := by
  refine ⟨fun j' h1 h4 kl' hk' => ?_, fun kl' v hv => ?_⟩
  · show _ = if _ ∧ (left kl' && !kl'.sameKey kl) = false then _ else _
    by_cases e : j' = j
    · subst e
      have e2 : kl' = kl := by rw [hk] at hk'; injection hk' with hk'; exact hk'.symm
      subst e2
      rw [updV_same (kStr.key (keyS hj4)), WideAt.sameKey_self (kT.key hk), if_pos ⟨hs, by simp⟩]
    · have hd : kl' ≠ kl := by
        rintro rfl
        have := tagV_inj ⟨hk3, h4⟩ ⟨hk3, hj4⟩ (kT.inj hk' hk)
        injection this with _ this
        exact e this
      have hs2 : (Lit.string (vB j')) ≠ .string (vB j) := by
        intro h5; injection h5 with h5; exact e (vB_inj j' h4 j hj4 h5)
      rw [updV_other hs2, left_other hd]
      exact h.one j' h1 h4 kl' hk'
  · by_cases e : kl' = .string (vB j)
    · exact ⟨j, hj1, hj4, e⟩
    · rw [updV_other e] at hv
      exact h.dom kl' v hv
/-- behind the range: each value of the key with its count -/
def CntF (ns : List Nat) (k : Nat) (f2 : Lit → Option Value) : Prop := (∀ j, 1 ≤ j → j < 4 → f2 (.string (vB j)) = if cntT ns (k, j) ≠ 0 then some (.int .i64 (cntT ns (k, j) : Int)) else none) ∧ ∀ kl v, f2 kl = some v → ∃ j, 1 ≤ j ∧ j < 4 ∧ kl = .string (vB j)
theorem CntI.fin {ns : List Nat} {k : Nat} {f f2 : Lit → Option Value} {left : Lit → Bool} (h : CntI ns k f f2 left) (hk3 : k < 3) (hv : ValF ns f) (hl : ∀ kl, left kl = false) : CntF ns k f2 := by
  refine ⟨fun j h1 h4 => ?_, h.dom⟩
  obtain ⟨kl, hk⟩ := keyT (t := (k, j)) ⟨hk3, h4⟩
  rw [h.one j h1 h4 kl hk]
  by_cases hc : cntT ns (k, j) = 0
  · have h6 : ¬ ((f kl).isSome = true ∧ left kl = false) := by
     rintro ⟨h5, _⟩
     obtain ⟨v, hv5⟩ := Option.isSome_iff_exists.1 h5
     obtain ⟨t, ht, hk2, A, c, _, hne⟩ := hv.dn kl v hv5
     have := tagV_inj ⟨hk3, h4⟩ ht (kT.inj hk hk2)
     subst this
     exact hne hc
    rw [if_neg h6, if_neg (fun h => h hc)]
  · rw [if_pos hc, if_pos ⟨hv.up _ ⟨hk3, h4⟩ kl hk hc, hl kl⟩]
/-- the values of a key that are met -/
def jsOf (ns : List Nat) (k : Nat) : List Nat := [1, 2, 3].filter fun j => decide (cntT ns (k, j) ≠ 0)
theorem jsOf_lt {ns : List Nat} {k j : Nat} (h : j ∈ jsOf ns k) : 1 ≤ j ∧ j < 4 ∧ cntT ns (k, j) ≠ 0 := by
  unfold jsOf at h
  rw [List.mem_filter] at h
  have h1 := h.1
  simp at h1
  exact ⟨by omega, by omega, of_decide_eq_true h.2⟩
theorem jsOf_mem {ns : List Nat} {k j : Nat} (h1 : 1 ≤ j) (h4 : j < 4) (hc : cntT ns (k, j) ≠ 0) : j ∈ jsOf ns k := by
  unfold jsOf
  rw [List.mem_filter]
  exact ⟨by simp; omega, decide_eq_true hc⟩
theorem jsOf_asc (ns : List Nat) (k : Nat) : (jsOf ns k).Pairwise (· < ·) := by
  unfold jsOf; exact List.Pairwise.filter _ (by decide)
theorem vB_le : ∀ a < 4, ∀ b < 4, a < b → vB a ≤ vB b := by decide +kernel
end Go.Proofs.Ytfdgklfkpofkeaa
