/-
  EpochHolds: one thread pinned, slots retired, Frees, unpinned, Frees: each thread let go on till so many of its calls have ended. Plain; the kernel goes through the runs.
-/
import Derived.Test.YtabmkjokeeakdaaDoorEpochM0
import Derived.Test.YtabmkjokeeakdaaDoorPlayInd
namespace Go.Proofs.YtabmkjokeeakdaaDoor
open Go.RowKit
set_option linter.unusedVariables false

/-- ended calls of a thread -/
def cntD (evs : List Ev) (t : Nat) : Nat := ((doings evs).filter fun d => d.t == t && d.e.isSome).length
/-- a thread goes on till e of its calls have ended: the number of steps so far, and the state -/
def ehPhase (m : Mach) (t e : Nat) : Nat → Nat → PS → Nat → Option (Nat × PS)
  | 0, _, _, _ => none
  | f + 1, i, s, c => if e ≤ c then some (i, s) else
      (fun s' : PS => ehPhase m t e f (i + 1) s' (if s'.evs.length == s.evs.length then c else cntD s'.evs t)) (pstep m i t s)
/-- the same of schedules -/
structure Ph1 (m : Mach) (t e : Nat) (l : List Nat) (K : Nat) : Prop where
  few : K < 300
  full : e ≤ cntD (play m (l ++ List.replicate K t)).evs t
  less : ∀ k, k < K → cntD (play m (l ++ List.replicate k t)).evs t < e
theorem ehPhase_ok {m : Mach} {t e : Nat} : ∀ (f : Nat) (l : List Nat) (c : Nat) (i' : Nat) (s' : PS), c = cntD (play m l).evs t → ehPhase m t e f l.length (play m l) c = some (i', s') →
    ∃ K, K < f ∧ i' = l.length + K ∧ s' = play m (l ++ List.replicate K t) ∧ e ≤ cntD s'.evs t ∧ ∀ k, k < K → cntD (play m (l ++ List.replicate k t)).evs t < e
  | 0, l, c, i', s', hc, h => by cases h
  | f + 1, l, c, i', s', hc, h => by
    rw [ehPhase] at h
    split at h
    · rename_i hle
      injection h with h; injection h with h1 h2
      subst h1 h2
      exact ⟨0, by omega, rfl, by rw [List.replicate_zero, List.append_nil], by rw [← hc]; exact hle, fun k hk => absurd hk (by omega)⟩
    · rename_i hlt
      have hp : pstep m l.length t (play m l) = play m (l ++ [t]) := by unfold play; rw [prun_snoc, Nat.zero_add]
      rw [hp] at h
      have hl : l.length + 1 = (l ++ [t]).length := by simp
      rw [hl] at h
      obtain ⟨K, hK, hi, hs, hf, hless⟩ := ehPhase_ok f (l ++ [t]) _ i' s' (by
        split
        · rename_i heq
          obtain ⟨u, hu, -⟩ := pstep_evs m l.length t (play m l)
          rw [hp] at hu
          have hlen := eq_of_beq heq
          rw [hu, List.length_append] at hlen
          have : u = [] := List.eq_nil_of_length_eq_zero (by omega)
          rw [hu, this, List.append_nil]; exact hc
        · rfl) h
      have ap : ∀ k, (l ++ [t]) ++ List.replicate k t = l ++ List.replicate (k + 1) t := fun k => by rw [List.append_assoc, List.replicate_succ]; rfl
      rw [ap] at hs
      refine ⟨K + 1, by omega, by rw [hi, List.length_append]; simp only [List.length_cons, List.length_nil]; omega, hs, hf, fun k hk => ?_⟩
      cases k with
      | zero => rw [List.replicate_zero, List.append_nil, ← hc]; omega
      | succ k => rw [← ap]; exact hless k (by omega)
def ehGo (m : Mach) : List (Nat × Nat) → Nat → PS → Option (Nat × PS)
  | [], i, s => some (i, s)
  | (t, e) :: ph, i, s => match ehPhase m t e 300 i s (cntD s.evs t) with
    | some (i1, s1) => ehGo m ph i1 s1
    | none => none
/-- schedules, phase after phase -/
inductive Phs (m : Mach) : List (Nat × Nat) → List Nat → List Nat → Prop
  | nil (l : List Nat) : Phs m [] l l
  | cons {t e : Nat} {ph : List (Nat × Nat)} {l l' : List Nat} (K : Nat) (h : Ph1 m t e l K) (hr : Phs m ph (l ++ List.replicate K t) l') : Phs m ((t, e) :: ph) l l'
theorem ehGo_ok {m : Mach} : ∀ (ph : List (Nat × Nat)) (l : List Nat) (i' : Nat) (s' : PS), ehGo m ph l.length (play m l) = some (i', s') → ∃ l', Phs m ph l l' ∧ i' = l'.length ∧ s' = play m l'
  | [], l, i', s', h => by injection h with h; injection h with h1 h2; exact ⟨l, .nil l, h1.symm, h2.symm⟩
  | (t, e) :: ph, l, i', s', h => by
    rw [ehGo] at h
    split at h
    · rename_i i1 s1 h1
      obtain ⟨K, hK, hi, hs, hf, hless⟩ := ehPhase_ok 300 l _ i1 s1 rfl h1
      subst hs
      rw [hi, show l.length + K = (l ++ List.replicate K t).length by simp] at h
      obtain ⟨l', hp, h2, h3⟩ := ehGo_ok ph _ i' s' h
      exact ⟨l', .cons K ⟨hK, hf, hless⟩ hp, h2, h3⟩
    · cases h
/-- the threads' calls -/
def ehT (N w t : Nat) : List VCall := if t = w then [⟨0, [(w : Int)]⟩, ⟨1, [(w : Int)]⟩] else if t = 1 - w then [] else if t = 2 then (List.range N).map (eret N 0) else if t = 3 then List.replicate (N + 1) ⟨3, []⟩ else []
def ehM (N w : Nat) : Mach := ⟨List.replicate (N + 5) 0, [epinCode, eunpinCode, eretireCode, efreeCode N], (List.range 4).map (ehT N w)⟩
/-- who goes on, and till when -/
def ehPh (N w : Nat) : List (Nat × Nat) := (w, 1) :: ((List.range N).map fun i => (2, i + 1)) ++ (3, 1) :: (w, 2) :: ((List.range N).map fun i => (3, i + 2))
/-- what the Frees tell: nothing first, then something each time -/
def eh3 (N : Nat) : Nat → List Dg → Bool
  | k, [] => k == N + 1
  | k, d :: ds => if d.t == 3 then (match d.told with | [v] => (v != -1) == (k != 0) | _ => false) && eh3 N (k + 1) ds else eh3 N k ds
def ehOk (N w : Nat) : Bool := match ehGo (ehM N w) (ehPh N w) 0 (pinit (ehM N w)) with
  | some (i, s) => (s.evs.all fun e => e.err == 0) && decide (i ≤ 3000) && decide ((doings s.evs).length ≤ 1000) && eh3 N 0 (doings s.evs)
  | none => false
set_option maxRecDepth 1000000 in
theorem eh_1 : ((List.range 2).all fun w => ehOk 1 w) = true := by decide +kernel
set_option maxRecDepth 1000000 in
theorem eh_2 : ((List.range 2).all fun w => ehOk 2 w) = true := by decide +kernel
set_option maxRecDepth 1000000 in
theorem eh_3 : ((List.range 2).all fun w => ehOk 3 w) = true := by decide +kernel
set_option maxRecDepth 1000000 in
theorem eh_4 : ((List.range 2).all fun w => ehOk 4 w) = true := by decide +kernel
set_option maxRecDepth 1000000 in
theorem eh_5 : ((List.range 2).all fun w => ehOk 5 w) = true := by decide +kernel
set_option maxRecDepth 1000000 in
theorem eh_6 : ((List.range 2).all fun w => ehOk 6 w) = true := by decide +kernel
set_option maxRecDepth 1000000 in
theorem eh_7 : ((List.range 2).all fun w => ehOk 7 w) = true := by decide +kernel
set_option maxRecDepth 1000000 in
theorem eh_8 : ((List.range 2).all fun w => ehOk 8 w) = true := by decide +kernel
theorem eh_ok {N w : Nat} (h1 : 1 ≤ N) (h8 : N ≤ 8) (hw : w < 2) : ehOk N w = true := by
  have key : ∀ {m : Nat}, ((List.range 2).all fun w => ehOk m w) = true → ehOk m w = true := fun h => List.all_eq_true.1 h w (List.mem_range.2 hw)
  rcases (show N = 1 ∨ N = 2 ∨ N = 3 ∨ N = 4 ∨ N = 5 ∨ N = 6 ∨ N = 7 ∨ N = 8 by omega) with rfl | rfl | rfl | rfl | rfl | rfl | rfl | rfl
  · exact key eh_1
  · exact key eh_2
  · exact key eh_3
  · exact key eh_4
  · exact key eh_5
  · exact key eh_6
  · exact key eh_7
  · exact key eh_8
theorem epoch_holds {N w : Nat} (h1 : 1 ≤ N) (h8 : N ≤ 8) (hw : w < 2) : ∃ l, Phs (ehM N w) (ehPh N w) [] l ∧ l.length ≤ 3000 ∧ (doings (play (ehM N w) l).evs).length ≤ 1000 ∧ NoErr (play (ehM N w) l).evs ∧ eh3 N 0 (doings (play (ehM N w) l).evs) = true := by
  have h := eh_ok h1 h8 hw
  unfold ehOk at h
  split at h
  · rename_i i s hg
    obtain ⟨l, hp, hi, hs⟩ := ehGo_ok (ehPh N w) [] i s hg
    subst hi hs
    simp only [Bool.and_eq_true, decide_eq_true_eq] at h
    obtain ⟨⟨⟨a, b⟩, b2⟩, c⟩ := h
    exact ⟨l, hp, b, b2, fun e he => by have := List.all_eq_true.1 a e he; simpa using this, c⟩
  · cases h
end Go.Proofs.YtabmkjokeeakdaaDoor
