/-
  What holds after every step of a run that the kernel goes through: plain.
-/
import Derived.Test.YtnoinojhocicjaaDoorInside
namespace Go.Proofs.YtnoinojhocicjaaDoor
open Go.RowKit
set_option linter.unusedVariables false

def scan (m : Mach) (P : Nat → PS → Bool) : Nat → List Nat → PS → Bool
  | i, [], s => P i s
  | i, n :: l, s => P i s && scan m P (i + 1) l (pstep m i n s)
theorem scan_run {m : Mach} {P : Nat → PS → Bool} : ∀ (l : List Nat) (i : Nat) (s : PS), scan m P i l s = true → ∀ T, T ≤ l.length → P (i + T) (prun m i (l.take T) s) = true
  | [], i, s, h, T, hT => by
    have : T = 0 := by simpa using hT
    subst this
    exact h
  | n :: l, i, s, h, T, hT => by
    unfold scan at h
    rw [Bool.and_eq_true] at h
    cases T with
    | zero => exact h.1
    | succ T =>
      have := scan_run l (i + 1) _ h.2 T (by simpa using hT)
      rw [List.take_succ_cons, prun, show i + (T + 1) = i + 1 + T by omega]
      exact this
theorem scan_play {m : Mach} {P : Nat → PS → Bool} {l : List Nat} (h : scan m P 0 l (pinit m) = true) (T : Nat) (hT : T ≤ l.length) : P T (play m (l.take T)) = true := by
  have := scan_run l 0 (pinit m) h T hT
  rw [Nat.zero_add] at this
  exact this
/-- no error so far -/
def noErrB (s : PS) : Bool := s.evs.all fun e => e.err == 0
theorem noErr_of {s : PS} (h : noErrB s = true) : NoErr s.evs := fun e he => by
  have := List.all_eq_true.1 h e he
  simpa using this
/-- how many calls of a thread have ended -/
def endedN (ds : List Dg) (t : Nat) : Nat := (ds.filter fun d => d.t == t && d.e.isSome).length
/-- a schedule of parts: the part d is cD d steps of the thread tD d -/
def partsS (tD cD : Nat → Nat) : Nat → List Nat
  | 0 => []
  | d + 1 => partsS tD cD d ++ List.replicate (cD d) (tD d)
theorem parts_take {tD cD : Nat → Nat} : ∀ (n d i : Nat), d < n → i ≤ cD d → (partsS tD cD n).take ((partsS tD cD d).length + i) = partsS tD cD d ++ List.replicate i (tD d) ∧ (partsS tD cD d).length + i ≤ (partsS tD cD n).length
  | 0, d, i, h, _ => absurd h (by omega)
  | n + 1, d, i, h, hi => by
    rw [partsS]
    by_cases e : d = n
    · subst e
      rw [List.take_append, List.take_of_length_le (by omega), show (partsS tD cD d).length + i - (partsS tD cD d).length = i by omega, List.take_replicate, Nat.min_eq_left hi, List.length_append, List.length_replicate]
      exact ⟨rfl, by omega⟩
    · obtain ⟨h1, h2⟩ := parts_take (tD := tD) n d i (by omega) hi
      refine ⟨?_, by rw [List.length_append]; omega⟩
      rw [List.take_append_of_le_length h2, h1]
/-- in part d the call that is wanted ends at its last step, and no earlier -/
def partP (tD cD wD : Nat → Nat) (n : Nat) (T : Nat) (s : PS) : Bool :=
  noErrB s && (List.range n).all fun d => if (partsS tD cD d).length ≤ T ∧ T ≤ (partsS tD cD d).length + cD d then decide (endedN (doings s.evs) (tD d) < wD d) == decide (T < (partsS tD cD d).length + cD d) else true
theorem parts_play {m : Mach} {tD cD wD : Nat → Nat} {n : Nat} (h : scan m (partP tD cD wD n) 0 (partsS tD cD n) (pinit m) = true) {d i : Nat} (hd : d < n) (hi : i ≤ cD d) :
    NoErr (play m (partsS tD cD d ++ List.replicate i (tD d))).evs ∧ (endedN (doings (play m (partsS tD cD d ++ List.replicate i (tD d))).evs) (tD d) < wD d ↔ i < cD d) := by
  obtain ⟨h1, h2⟩ := parts_take (tD := tD) n d i hd hi
  have h3 := scan_play h _ h2
  rw [h1] at h3
  unfold partP at h3
  rw [Bool.and_eq_true] at h3
  refine ⟨noErr_of h3.1, ?_⟩
  have h4 := List.all_eq_true.1 h3.2 d (List.mem_range.2 hd)
  rw [if_pos ⟨by omega, by omega⟩, beq_iff_eq, decide_eq_decide] at h4
  rw [h4]; omega
end Go.Proofs.YtnoinojhocicjaaDoor
