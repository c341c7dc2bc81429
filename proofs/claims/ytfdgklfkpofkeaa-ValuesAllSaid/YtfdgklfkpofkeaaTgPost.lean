/-
  Which series have a tag: lists by tags, in memory and plain.
-/
import Derived.Test.YtfdgklfkpofkeaaTgMay
import Derived.Test.YtfdgklfkpofkeaaMapE
import Derived.DeepKeys5
namespace Go.Proofs.Ytfdgklfkpofkeaa
open Go.RowKit Go.Maps
set_option linter.unusedVariables false

abbrev tagV (t : Nat × Nat) : Value := .agg #[.string (kS t.1), .string (vS t.2)]
theorem tcases {t : Nat × Nat} (h : TOk t) : ∃ a b, t = (a, b) ∧ (a = 0 ∨ a = 1 ∨ a = 2) ∧ (b = 0 ∨ b = 1 ∨ b = 2 ∨ b = 3) := by
  obtain ⟨a, b⟩ := t; obtain ⟨h1, h2⟩ := h
  exact ⟨a, b, rfl, by have : a < 3 := h1; omega, by have : b < 4 := h2; omega⟩
theorem keyT {t : Nat × Nat} (h : TOk t) : ∃ kl, keyOf Try.prog 43 (tagV t) = some kl := by
  obtain ⟨a, b, rfl, ha, hb⟩ := tcases h
  rcases ha with rfl | rfl | rfl <;> rcases hb with rfl | rfl | rfl | rfl <;> exact Option.isSome_iff_exists.1 (by kernel_rfl)
theorem lawT : WideMaps.KeyLaw Try.prog 43 := deep_law_gate (by kernel_rfl) (Nat.le_of_ble_eq_true (by kernel_rfl)) (Nat.lt_of_lt_of_le (Nat.lt_succ_self _) (Nat.le_of_ble_eq_true (by kernel_rfl))) (by kernel_rfl) (by kernel_rfl)
theorem kT : Keyed Try.prog 43 := Keyed.of_law lawT
theorem tagV_inj {s t : Nat × Nat} (hs : TOk s) (ht : TOk t) (h : tagV s = tagV t) : s = t := by
  have h1 : kS s.1 = kS t.1 ∧ vS s.2 = vS t.2 := by simp [tagV] at h; exact h
  have h2 := kS_eq s.1 hs.1 t.1 ht.1
  have h3 := vS_eq s.2 hs.2 t.2 ht.2
  rw [h1.1] at h2; rw [h1.2] at h3
  have e1 : s.1 = t.1 := by simpa using h2.symm
  have e2 : s.2 = t.2 := by simpa using h3.symm
  exact Prod.ext e1 e2
theorem zeroI (w : World) : (zeroValue 37).run Try.prog w = .ok (.slice none 0 0) w := by kernel_rfl

def castL (l : List Nat) : List Int := l.map fun x : Nat => (x : Int)
theorem castL_app (l : List Nat) (i : Nat) : castL l ++ [(i : Int)] = castL (l ++ [i]) := by simp [castL]
def addP (post : Nat × Nat → List Nat) (t : Nat × Nat) (i : Nat) : Nat × Nat → List Nat := fun u => if u = t then post t ++ [i] else post u
def updS (sv : Nat × Nat → Value) (t : Nat × Nat) (v : Value) : Nat × Nat → Value := fun u => if u = t then v else sv u

/-- the lists, each in a row of its own -/
structure OwnS (W0 w : World) (post : Nat × Nat → List Nat) (sv : Nat × Nat → Value) : Prop where
  own : ∀ t, Ow W0 w 3 1 gI (sv t) (castL (post t))
  apart : ∀ s t k, s ≠ t → (sv s).ownBlock = some k → (sv t).ownBlock ≠ some k
def GetS (f : Lit → Option Value) (sv : Nat × Nat → Value) : Prop := ∀ t, TOk t → ∀ kl, keyOf Try.prog 43 (tagV t) = some kl → (f kl).getD (.slice none 0 0) = sv t
theorem OwnS.below {W0 w w' : World} {post : Nat × Nat → List Nat} {sv : Nat × Nat → Value} (h : OwnS W0 w post sv) (hb : Below w.heap.size w w') : OwnS W0 w' post sv := ⟨fun t => (h.own t).step hb, h.apart⟩
theorem ow_ne_map {α : Type} {w0 w : World} {e sz : Nat} {g : α → List Value} {v : Value} {l : List α} (h : Ow w0 w e sz g v l) {P : Program} {K : TypeId} {b n : Nat} {f : Lit → Option Value} (hm : MapV w P K b n f) : v.ownBlock ≠ some b := by
  obtain ⟨es, clock, hb⟩ := hm.block
  rcases h.own.2 with ⟨rfl, _⟩ | ⟨g', cap, cur, rfl, _, hh, _⟩
  · simp [Value.ownBlock]
  · intro he
    obtain rfl : g' = b := by simpa [Value.ownBlock] using he
    rw [hb] at hh; cases hh
theorem ow_lt {α : Type} {w0 w : World} {e sz : Nat} {g : α → List Value} {v : Value} {l : List α} (h : Ow w0 w e sz g v l) {k : Nat} (hk : v.ownBlock = some k) : w0.heap.size ≤ k ∧ k < w.heap.size := by
  rcases h.own.2 with ⟨rfl, _⟩ | ⟨g', cap, cur, rfl, hg, hh, _⟩
  · simp [Value.ownBlock] at hk
  · obtain rfl : g' = k := by simpa [Value.ownBlock] using hk
    exact ⟨hg, (Array.getElem?_eq_some_iff.1 hh).1⟩
theorem ow_grow {α : Type} {w0 w w' : World} {e sz : Nat} {g : α → List Value} {v : Value} {l : List α} (h : Ow w0 w e sz g v l) {row : Option Nat} (hG : w.grownBy w' row) (hne : ∀ k, v.ownBlock = some k → row ≠ some k) (hr : ∀ k, row = some k → w0.heap.size ≤ k) : Ow w0 w' e sz g v l := by
  refine ⟨own_chg h.own (Chg.of_grown hG (M := fun k => row = some k) (fun k e => e)) (fun k hk => hne k hk), ?_⟩
  have := h.below
  exact ⟨hG.os.trans this.os, hG.tape.trans this.tape, hG.output.trans this.output, Nat.le_trans this.size hG.size, fun k hk => (hG.block k (by have := this.size; omega) fun e => by have := hr k e.symm; omega).trans (this.block k hk)⟩
theorem OwnS.map {W0 w w' : World} {post : Nat × Nat → List Nat} {sv : Nat × Nat → Value} (h : OwnS W0 w post sv) {P : Program} {K : TypeId} {b n : Nat} {f : Lit → Option Value} (hm : MapV w P K b n f) (hg : w.grownBy w' (some b)) (hge : W0.heap.size ≤ b) : OwnS W0 w' post sv :=
  ⟨fun t => ow_grow (h.own t) hg (fun k hk e => ow_ne_map (h.own t) hm (hk.trans e.symm)) (fun k e => by injection e with e; subst e; exact hge), h.apart⟩
/-- the same, where the block is a map of whatever content -/
theorem OwnS.map' {W0 w w' : World} {post : Nat × Nat → List Nat} {sv : Nat × Nat → Value} (h : OwnS W0 w post sv) {b : Nat} (hm : ∃ es clock, w.heap[b]? = some (.map es clock)) (hg : w.grownBy w' (some b)) (hge : W0.heap.size ≤ b) : OwnS W0 w' post sv := by
  obtain ⟨es, clock, hb⟩ := hm
  refine ⟨fun t => ow_grow (h.own t) hg (fun k hk e => ?_) (fun k e => by injection e with e; subst e; exact hge), h.apart⟩
  injection e with e; subst e
  rcases (h.own t).own.2 with ⟨hv, _⟩ | ⟨g', cap, cur, hv, _, hh, _⟩
  · rw [hv] at hk; simp [Value.ownBlock] at hk
  · rw [hv] at hk
    obtain rfl : g' = b := by simpa [Value.ownBlock] using hk
    rw [hb] at hh; cases hh
theorem OwnS.app {W0 w w3 : World} {post : Nat × Nat → List Nat} {sv : Nat × Nat → Value} (h : OwnS W0 w post sv) {t : Nat × Nat} {i : Nat} {v3 : Value} (h3 : Ow W0 w3 3 1 gI v3 (castL (post t ++ [i]))) (hG : w.grownBy w3 (sv t).ownBlock) (hb : v3.ownBlock = (sv t).ownBlock ∨ v3.ownBlock = some w.heap.size) : OwnS W0 w3 (addP post t i) (updS sv t v3) := by
  have hv3 : ∀ u, u ≠ t → ∀ k, v3.ownBlock = some k → (sv u).ownBlock ≠ some k := by
    intro u hne k hk he
    rcases hb with hb | hb
    · exact h.apart t u k (Ne.symm hne) (by rw [← hb]; exact hk) he
    · rw [hb] at hk; injection hk with hk
      have := (ow_lt (h.own u) he).2
      omega
  refine ⟨fun u => ?_, fun s u k hne h1 => ?_⟩
  · by_cases e : u = t
    · subst e; unfold addP updS; rw [if_pos rfl, if_pos rfl]; exact h3
    · unfold addP updS; rw [if_neg e, if_neg e]
      exact ow_grow (h.own u) hG (fun k hk e2 => h.apart u t k e hk e2) (fun k e2 => (ow_lt (h.own t) e2).1)
  · unfold updS at h1 ⊢
    by_cases e1 : s = t
    · by_cases e2 : u = t
      · exact absurd (e1.trans e2.symm) hne
      · rw [if_pos e1] at h1; rw [if_neg e2]; exact hv3 u e2 k h1
    · rw [if_neg e1] at h1
      by_cases e2 : u = t
      · rw [if_pos e2]; intro h2; exact hv3 s e1 k h2 h1
      · rw [if_neg e2]; exact h.apart s u k hne h1
theorem GetS.upd {f : Lit → Option Value} {sv : Nat × Nat → Value} (h : GetS f sv) {t : Nat × Nat} (ht : TOk t) {kl : Lit} (hk : keyOf Try.prog 43 (tagV t) = some kl) (v : Value) : GetS (updV f kl v) (updS sv t v) := by
  intro u hu kl' hk'
  unfold updS
  by_cases e : u = t
  · subst e
    have e9 : kl = kl' := Option.some.inj (hk.symm.trans hk')
    subst e9
    rw [if_pos rfl, updV_same (kT.key hk)]; rfl
  · rw [if_neg e, updV_other (fun e2 => e (by subst e2; exact tagV_inj hu ht (kT.inj hk' hk)))]
    exact h u hu kl' hk'

/-! ### plain: what the lists hold -/
def mT (t u : Nat × Nat) : Bool := t == u || (t.1 == u.1 && u.2 == 0)
/-- behind i series and the first k tags of the next -/
def PInv (ns : List Nat) (i : Nat) (ts : List (Nat × Nat)) (post : Nat × Nat → List Nat) : Prop :=
  ∀ u, TOk u → post u = ((List.range i).filter fun q => hasT (ns.getD q 0) u) ++ (if (ts.any fun t => mT t u) = true then [i] else [])
theorem PInv.next {ns : List Nat} {i : Nat} {x k : Nat} {t : Nat × Nat} {post : Nat × Nat → List Nat} (hx : x < 64) (h : PInv ns i ((tagsOf x).take k) post) (ht : (tagsOf x)[k]? = some t) : PInv ns i ((tagsOf x).take (k + 1)) (addP (addP post t i) (t.1, 0) i) := by
  have htk := (tags_ok x hx).2 t (List.mem_of_getElem? ht)
  have hno : ∀ u, u.1 = t.1 → (((tagsOf x).take k).any fun s => mT s u) = false := by
    intro u hu
    rw [List.any_eq_false]
    intro s hs hm
    obtain ⟨j, hj⟩ := List.getElem?_of_mem hs
    rw [List.getElem?_take] at hj
    split at hj
    · rename_i hjk
      have hasc := tags_asc x hx
      rw [List.pairwise_iff_getElem] at hasc
      obtain ⟨l1, e1⟩ := List.getElem?_eq_some_iff.1 hj
      obtain ⟨l2, e2⟩ := List.getElem?_eq_some_iff.1 ht
      have := hasc j k l1 l2 hjk
      rw [e1, e2] at this
      have h1 : s.1 = u.1 := by
        unfold mT at hm
        simp only [Bool.or_eq_true, Bool.and_eq_true, beq_iff_eq] at hm
        rcases hm with h | h
        · rw [h]
        · exact h.1
      omega
    · cases hj
  intro u hu
  have h0 := h u hu
  rw [take_next ht, List.any_append]
  by_cases hm : mT t u = true
  · have hk1 : u.1 = t.1 := by
      unfold mT at hm
      simp only [Bool.or_eq_true, Bool.and_eq_true, beq_iff_eq] at hm
      rcases hm with h | h
      · rw [← h]
      · exact h.1.symm
    rw [hno u hk1] at h0
    have hadd : addP (addP post t i) (t.1, 0) i u = post u ++ [i] := by
      by_cases h2 : u.2 = 0
      · have hu0 : u = (t.1, 0) := Prod.ext hk1 h2
        have hne : ((t.1, 0) : Nat × Nat) ≠ t := fun e => by have : (t.1, 0).2 = t.2 := by rw [e]
                                                             simp at this; omega
        subst hu0
        unfold addP
        rw [if_pos rfl, if_neg hne]
      · have hut : u = t := by
          unfold mT at hm
          simp only [Bool.or_eq_true, Bool.and_eq_true, beq_iff_eq] at hm
          rcases hm with h | h
          · exact h.symm
          · exact absurd h.2 h2
        subst hut
        unfold addP
        rw [if_neg (fun e => h2 (by rw [e])), if_pos rfl]
    rw [hadd, h0]
    simp [hm, hno u hk1]
  · have hadd : addP (addP post t i) (t.1, 0) i u = post u := by
      have h1 : u ≠ t := fun e => hm (by subst e; simp [mT])
      have h2 : u ≠ (t.1, 0) := fun e => hm (by subst e; simp [mT])
      unfold addP
      rw [if_neg h2, if_neg h1]
    rw [hadd, h0]
    have hm' : mT t u = false := by simpa using hm
    rw [show ([t].any fun t => mT t u) = false from (by show (mT t u || false) = false; rw [hm']; rfl), Bool.or_false]
theorem PInv.full {ns : List Nat} {i x : Nat} {post : Nat × Nat → List Nat} (hx : x < 64) (hi : ns[i]? = some x) (h : PInv ns i (tagsOf x) post) : PInv ns (i + 1) [] post := by
  intro u hu
  rw [h u hu, List.range_succ, List.filter_append]
  have hg : ns.getD i 0 = x := by rw [List.getD_eq_getElem?_getD, hi]; rfl
  have hh := hasT_iff x hx u.1 hu.1 u.2 hu.2
  have hm : ((tagsOf x).any fun t => mT t u) = hasT x u := hh.symm
  rw [hm]
  by_cases hb : hasT x u = true
  · rw [if_pos hb, List.filter_cons_of_pos (by rw [hg]; exact hb)]; simp
  · rw [if_neg hb, List.filter_cons_of_neg (by rw [hg]; exact hb)]; simp
end Go.Proofs.Ytfdgklfkpofkeaa
