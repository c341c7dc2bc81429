/-
  An object of so many places, one call behind the other: what it tells. Plain.
-/
import Derived.Test.YtiinnkdhccgelaaDoorSolo
import Derived.Test.YtiinnkdhccgelaaDoorQStep
namespace Go.Proofs.YtiinnkdhccgelaaDoor
open Go.RowKit
set_option linter.unusedVariables false

/-- what a call tells, and what there is then; q: a queue, else a stack -/
def xres (q : Bool) (N : Nat) (has : List Int) (put : Bool) (v : Int) : Int × List Int :=
  if put then (if has.length = N then (0, has) else (1, has ++ [v])) else otell q has false 0
def xtake (kinds : List Bool) (i : Nat) : Bool := kinds.getD i false
/-- what there is ahead of the call k -/
def xhas (q : Bool) (N : Nat) (f : Nat → Int) (kinds : List Bool) : Nat → List Int
  | 0 => []
  | k + 1 => (xres q N (xhas q N f kinds k) (!xtake kinds k) (f k)).2
/-- what the call k tells -/
def xtold (q : Bool) (N : Nat) (f : Nat → Int) (kinds : List Bool) (k : Nat) : Int := (xres q N (xhas q N f kinds k) (!xtake kinds k) (f k)).1
def xwant (q : Bool) (N : Nat) (f : Nat → Int) (kinds : List Bool) (k : Nat) : List Int := (List.range k).map (xtold q N f kinds)
def xcall (f : Nat → Int) (kinds : List Bool) (i : Nat) : VCall := if xtake kinds i = true then ⟨1, []⟩ else ⟨0, [f i]⟩
def xcalls (f : Nat → Int) (kinds : List Bool) (k : Nat) : List VCall := (List.range k).map (xcall f kinds)
theorem xcalls_len (f : Nat → Int) (kinds : List Bool) (k : Nat) : (xcalls f kinds k).length = k := by unfold xcalls; simp
theorem xwant_len (q : Bool) (N : Nat) (f : Nat → Int) (kinds : List Bool) (k : Nat) : (xwant q N f kinds k).length = k := by unfold xwant; simp
theorem xcalls_next (f : Nat → Int) (kinds : List Bool) (k : Nat) : xcalls f kinds (k + 1) = xcalls f kinds k ++ [xcall f kinds k] := by unfold xcalls; rw [List.range_succ, List.map_append]; rfl
theorem xwant_next (q : Bool) (N : Nat) (f : Nat → Int) (kinds : List Bool) (k : Nat) : xwant q N f kinds (k + 1) = xwant q N f kinds k ++ [xtold q N f kinds k] := by unfold xwant; rw [List.range_succ, List.map_append]; rfl
theorem xcalls_at {f : Nat → Int} {kinds : List Bool} {k j : Nat} (h : j < k) : (xcalls f kinds k)[j]? = some (xcall f kinds j) := by unfold xcalls; rw [List.getElem?_map, List.getElem?_range h]; rfl
theorem xwant_at {q : Bool} {N : Nat} {f : Nat → Int} {kinds : List Bool} {k j : Nat} (h : j < k) : (xwant q N f kinds k)[j]? = some (xtold q N f kinds j) := by unfold xwant; rw [List.getElem?_map, List.getElem?_range h]; rfl
theorem xres_len {q : Bool} {N : Nat} {has : List Int} {put : Bool} {v : Int} (h : has.length ≤ N) : (xres q N has put v).2.length ≤ N := by
  unfold xres otell
  split
  · split
    · exact h
    · rw [List.length_append, List.length_singleton]; show has.length + 1 ≤ N; omega
  · rw [if_neg (by decide)]
    split
    · exact Nat.zero_le _
    · rw [List.length_cons] at h
      split
      · rename_i x l _
        have e : (x, l).2.length = l.length := rfl
        omega
      · rename_i x l _
        have e : ((x :: l).getLast?.getD 0, (x :: l).dropLast).2.length = l.length := by show (x :: l).dropLast.length = _; simp
        omega
theorem xhas_len (q : Bool) (N : Nat) (f : Nat → Int) (kinds : List Bool) : ∀ k, (xhas q N f kinds k).length ≤ N
  | 0 => Nat.zero_le _
  | k + 1 => xres_len (xhas_len q N f kinds k)
theorem xres_mem {q : Bool} {N : Nat} {has : List Int} {put : Bool} {v x : Int} (h : x ∈ (xres q N has put v).2) : x ∈ has ∨ (put = true ∧ x = v) := by
  unfold xres otell at h
  split at h
  · rename_i hp
    split at h
    · exact .inl h
    · rcases List.mem_append.1 h with h | h
      · exact .inl h
      · exact .inr ⟨hp, List.mem_singleton.1 h⟩
  · rw [if_neg (by decide)] at h
    split at h
    · cases h
    · split at h
      · exact .inl (List.mem_cons_of_mem _ h)
      · exact .inl ((List.dropLast_sublist _).subset h)
theorem xhas_mem {q : Bool} {N : Nat} {f : Nat → Int} {kinds : List Bool} : ∀ {k : Nat} {x : Int}, x ∈ xhas q N f kinds k → ∃ j, j < k ∧ x = f j
  | 0, x, h => by cases h
  | k + 1, x, h => by
    rcases xres_mem h with h | ⟨_, h⟩
    · obtain ⟨j, h1, h2⟩ := xhas_mem h; exact ⟨j, by omega, h2⟩
    · exact ⟨k, by omega, h⟩
/-- a machine with one thread -/
def xmach (ws : List Int) (k1 k2 : List Op5) (f : Nat → Int) (kinds : List Bool) (k : Nat) : Mach := ⟨ws, [k1, k2], [xcalls f kinds k]⟩
theorem x_series {q : Bool} {N B K : Nat} {ws : List Int} {k1 k2 : List Op5} {f : Nat → Int} {kinds : List Bool} {I : Nat → List Int → List Int → Prop}
    (hput : ∀ j l v ws, j < K → I j l ws → l.length ≤ N → (∃ i, i < K ∧ v = f i) → ∃ n t' ws', n ≤ B ∧ Ends k1 (vbegin k1.length [v]) ws n t' ws' ∧ I (j + 1) (xres q N l true v).2 ws' ∧ t'.err = 0 ∧ t'.told = [(xres q N l true v).1])
    (htake : ∀ j l ws, j < K → I j l ws → l.length ≤ N → ∃ n t' ws', n ≤ B ∧ Ends k2 (vbegin k2.length []) ws n t' ws' ∧ I (j + 1) (xres q N l false 0).2 ws' ∧ t'.err = 0 ∧ t'.told = [(xres q N l false 0).1]) :
    Series (xmach ws k1 k2 f kinds K) 0 (xcalls f kinds K) K B (fun j => I j (xhas q N f kinds j)) (fun j => [xtold q N f kinds j]) where
  th := rfl
  call := fun j us hj hI => by
    have hl := xhas_len q N f kinds j
    refine ⟨xcall f kinds j, ?_⟩
    cases hk : xtake kinds j with
    | true =>
      obtain ⟨n, t', ws', h1, h2, h5, h3, h4⟩ := htake j _ us hj hI hl
      have e : xcall f kinds j = ⟨1, []⟩ := by unfold xcall; rw [hk]; rfl
      refine ⟨n, t', ws', xcalls_at hj, h1, ?_, ?_, h3, ?_⟩
      · rw [e]; exact h2
      · show I (j + 1) (xres q N (xhas q N f kinds j) (!xtake kinds j) (f j)).2 ws'
        rw [hk]; exact h5
      · rw [h4]; unfold xtold; rw [hk]; rfl
    | false =>
      obtain ⟨n, t', ws', h1, h2, h5, h3, h4⟩ := hput j _ (f j) us hj hI hl ⟨j, hj, rfl⟩
      have e : xcall f kinds j = ⟨0, [f j]⟩ := by unfold xcall; rw [hk]; rfl
      refine ⟨n, t', ws', xcalls_at hj, h1, ?_, ?_, h3, ?_⟩
      · rw [e]; exact h2
      · show I (j + 1) (xres q N (xhas q N f kinds j) (!xtake kinds j) (f j)).2 ws'
        rw [hk]; exact h5
      · rw [h4]; unfold xtold; rw [hk]; rfl
end Go.Proofs.YtiinnkdhccgelaaDoor
