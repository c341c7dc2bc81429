/-
  The machine that barographkeep.lockMachine builds, as a plain function.
-/
import Derived.Test.YtbcjgnigdddlkaaDoorRDef
import Derived.Test.YtbcjgnigdddlkaaDoorCodesL
namespace Go.Proofs.YtbcjgnigdddlkaaDoor
open Go.RowKit
set_option linter.unusedVariables false

/-- what the thread t calls, once -/
def lround (work t : Nat) : List VCall := if 0 < work then [⟨0, [(t : Int)]⟩, ⟨2, []⟩, ⟨1, [(t : Int)]⟩] else [⟨0, [(t : Int)]⟩, ⟨1, [(t : Int)]⟩]
def lcalls (work t : Nat) : Nat → List VCall
  | 0 => []
  | i + 1 => lcalls work t i ++ lround work t
theorem lcalls_len (work t i : Nat) : (lcalls work t i).length ≤ 3 * i := by
  induction i with
  | zero => simp [lcalls]
  | succ i ih => have : (lround work t).length ≤ 3 := by unfold lround; split <;> simp
                 simp only [lcalls, List.length_append]; omega
/-- threads beyond t: none; thread t has i rounds -/
def lths (f : Nat → Nat) (work t i : Nat) (j : Nat) : List VCall := if j < t then lcalls work j (f j) else if j = t then lcalls work t i else []
theorem lths_zero (f : Nat → Nat) (work : Nat) : lths f work 0 0 = fun _ => [] := by
  funext j; unfold lths; simp [lcalls]
theorem lths_upd (f : Nat → Nat) (work t i : Nat) : upd (lths f work t i) t (lths f work t i t ++ lround work t) = lths f work t (i + 1) := by
  funext j
  unfold upd lths
  by_cases h : j = t
  · subst h; simp [lcalls]
  · simp [h]
theorem lths_next (f : Nat → Nat) (work t : Nat) : lths f work t (f t) = lths f work (t + 1) 0 := by
  funext j
  unfold lths
  by_cases h : j < t
  · simp [h, Nat.lt_succ_of_lt h]
  · by_cases h2 : j = t
    · subst h2; simp
    · simp [h, h2, show ¬ j < t + 1 by omega, lcalls]
theorem lcalls_mem (work t : Nat) : ∀ (i : Nat) (c : VCall), c ∈ lcalls work t i → c.code < 3 ∧ c.args.length ≤ 8
  | 0, c, h => by cases h
  | i + 1, c, h => by
    rcases List.mem_append.1 h with h | h
    · exact lcalls_mem work t i c h
    · unfold lround at h
      split at h <;> simp at h
      · rcases h with rfl | rfl | rfl <;> simp
      · rcases h with rfl | rfl <;> simp
/-- the machine -/
def lmach (n : Nat) (f : Nat → Nat) (work : Nat) : Mach := ⟨List.replicate (2 * n) 0, [lenterCode n, lleaveCode n, lops work work], (List.range n).map (lths f work n 0)⟩
theorem lmach_at {B : Nat} {w : World} {Cb T n : Nat} {cv tv : Nat → Value} {av : Nat → List SV} {f : Nat → Nat} {work : Nat} (h : MN B w 3 n Cb T cv (fun i => [lenterCode n, lleaveCode n, lops work work].getD i []) tv (lths f work n 0) av)
    (h1 : 1 ≤ n) (h4 : n ≤ 4) (hw : work ≤ 200) (hf : ∀ t, t < n → f t ≤ 6) : MachAt w (some ⟨Cb, 0, none⟩) 3 (some ⟨T, 0, none⟩) n (lmach n f work) := by
  refine h.at_ rfl (by unfold lmach; simp) (fun i hi => ?_) (fun j hj => ?_)
  · rcases (show i = 0 ∨ i = 1 ∨ i = 2 by omega) with rfl | rfl | rfl
    · exact ⟨by show (lenterCode n).length ≤ 200; rw [lenter_len h1 h4]; omega, lenter_sh h1 h4⟩
    · exact ⟨by show (lleaveCode n).length ≤ 200; exact Nat.le_of_ble_eq_true rfl, lleave_sh h4⟩
    · exact ⟨by show (lops work work).length ≤ 200; rw [lops_len (Nat.le_refl _)]; exact hw, lops_sh work⟩
  · have e : lths f work n 0 j = lcalls work j (f j) := by unfold lths; rw [if_pos hj]
    rw [e]
    exact ⟨by have := lcalls_len work j (f j); have := hf j hj; omega, lcalls_mem work j _⟩
end Go.Proofs.YtbcjgnigdddlkaaDoor
