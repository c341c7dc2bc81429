/-
  The machine that barographkeep.rounds builds, as a plain function.
-/
import Derived.Test.YtbcjgnigdddlkaaDoorMachN
namespace Go.Proofs.YtbcjgnigdddlkaaDoor
open Go.RowKit
set_option linter.unusedVariables false

/-- k of work operations are written -/
def lops (k work : Nat) : List Op5 := (List.range k).map (fun (i : Nat) => (⟨1, 0, (i : Int), 0, 0⟩ : Op5)) ++ List.replicate (work - k) ⟨0, 0, 0, 0, 0⟩
theorem lops_zero (work : Nat) : lops 0 work = List.replicate work ⟨0, 0, 0, 0, 0⟩ := by simp [lops]
theorem lops_len {k work : Nat} (h : k ≤ work) : (lops k work).length = work := by simp [lops]; omega
theorem lops_set {k work : Nat} (h : k < work) : (lops k work).set k ⟨1, 0, (k : Int), 0, 0⟩ = lops (k + 1) work := by
  unfold lops
  rw [List.set_append_right _ _ (by simp), List.range_succ, List.map_append]
  obtain ⟨r, hr⟩ : ∃ r, work - k = r + 1 := ⟨work - k - 1, by omega⟩
  rw [hr, show work - (k + 1) = r by omega]
  simp [List.replicate_succ]
/-- what a thread calls, once -/
def rround (work : Nat) : List VCall := if 0 < work then [⟨0, []⟩, ⟨2, []⟩, ⟨1, []⟩] else [⟨0, []⟩, ⟨1, []⟩]
def rcalls (work : Nat) : Nat → List VCall
  | 0 => []
  | n + 1 => rcalls work n ++ rround work
theorem rcalls_len (work n : Nat) : (rcalls work n).length ≤ 3 * n := by
  induction n with
  | zero => simp [rcalls]
  | succ n ih => have : (rround work).length ≤ 3 := by unfold rround; split <;> simp
                 simp only [rcalls, List.length_append]; omega
/-- threads t and more: none; thread t has i rounds -/
def rths (often work t i : Nat) (j : Nat) : List VCall := if j < t then rcalls work often else if j = t then rcalls work i else []
theorem rths_zero (often work : Nat) : rths often work 0 0 = fun _ => [] := by
  funext j; unfold rths; simp [rcalls]
theorem rths_upd (often work t i : Nat) : upd (rths often work t i) t (rths often work t i t ++ rround work) = rths often work t (i + 1) := by
  funext j
  unfold upd rths
  by_cases h : j = t
  · subst h; simp [rcalls]
  · simp [h]
theorem rths_next (often work t : Nat) : rths often work t often = rths often work (t + 1) 0 := by
  funext j
  unfold rths
  by_cases h : j < t
  · simp [h, Nat.lt_succ_of_lt h]
  · by_cases h2 : j = t
    · subst h2; simp
    · simp [h, h2, show ¬ j < t + 1 by omega, rcalls]
theorem upd_upd {α : Type} (f : Nat → α) (n : Nat) (x y : α) : upd (upd f n x) n y = upd f n y := by funext j; unfold upd; split <;> rfl
theorem getD3 {α : Type} (a b c d : α) (e : α) : upd (fun i => [a, b, c].getD i e) 2 d = fun i => [a, b, d].getD i e := by
  funext j
  unfold upd
  by_cases h : j = 2
  · subst h; rfl
  · rw [if_neg h]
    match j, h with
    | 0, _ => rfl
    | 1, _ => rfl
    | j + 3, _ => rfl
/-- the machine -/
def rmach (ws : List Int) (k1 k2 : List Op5) (often work : Nat) : Mach := ⟨ws, [k1, k2, lops work work], (List.range 4).map (rths often work 4 0)⟩
theorem lops_sh (work : Nat) : ∀ o ∈ lops work work, OpSh (lops work work).length o := by
  intro o ho
  have e : lops work work = (List.range work).map (fun (i : Nat) => (⟨1, 0, (i : Int), 0, 0⟩ : Op5)) := by simp [lops]
  rw [e, List.mem_map] at ho
  obtain ⟨i, _, rfl⟩ := ho
  exact ⟨⟨by show (1 : Int) ≤ 1; decide, by show (1 : Int) ≤ 17; decide⟩, .inl ⟨by show (1 : Int) ≠ 10; decide, by show (1 : Int) ≠ 17; decide, by show (0 : Int) ≤ 0; decide, by show (0 : Int) < 24; decide⟩, .inr (.inr (.inr rfl)), .inr (.inl ⟨.inl (by show (1 : Int) ≤ 2; decide), rfl⟩), .inr ⟨by show (1 : Int) ≠ 15; decide, rfl⟩⟩
theorem rcalls_mem (work : Nat) : ∀ (n : Nat) (c : VCall), c ∈ rcalls work n → c.code < 3 ∧ c.args.length ≤ 8
  | 0, c, h => by cases h
  | n + 1, c, h => by
    rcases List.mem_append.1 h with h | h
    · exact rcalls_mem work n c h
    · unfold rround at h
      split at h <;> simp at h
      · rcases h with rfl | rfl | rfl <;> decide
      · rcases h with rfl | rfl <;> decide
end Go.Proofs.YtbcjgnigdddlkaaDoor
