/-
  Folding: the walks of zig.Fold and zig.Unfold, and what they compute.
-/
import Derived.Test.YtifpnfhmemdljaaDoorNum
namespace Go.Proofs.YtifpnfhmemdljaaDoor
open Go.RowKit
set_option linter.unusedVariables false

theorem small_yes (n : Int) (w : World) (h0 : -288230376151711744 ≤ n) (h1 : n < 288230376151711744) :
    Calls Tryd.prog 42 #[.int .i64 n] w fun e w' => e = .returned (.bool true) ∧ w = w' := by
  go_enter Tryd.func42, Tryd.ntmps42
  go_wp2
  go_ret
  exact ⟨rfl, rfl⟩
def zfold (n : Int) : Int := if n < 0 then -2 * n - 1 else 2 * n
def zunf (m : Int) : Int := if m % 2 = 0 then m / 2 else -(m / 2) - 1
theorem zfold_bits (n : Int) (h0 : -288230376151711744 ≤ n) (h1 : n < 288230376151711744) : bits .xor .i64 (n * 2) (n / 9223372036854775808) = zfold n := by
  unfold zfold
  by_cases h : n < 0
  · rw [show n / 9223372036854775808 = -1 by omega, xor_i64_ones _ (by omega) (by omega), if_pos h]; omega
  · rw [show n / 9223372036854775808 = 0 by omega, xor_i64_zero _ (by omega) (by omega), if_neg h]; omega
theorem zunf_bits (n : Int) (h0 : 0 ≤ n) (h1 : n < 576460752303423488) : bits .xor .i64 (n / 2) (wrap64 (-bits .and .i64 n 1)) = zunf n := by
  obtain ⟨k, rfl⟩ := Int.eq_ofNat_of_zero_le h0
  have e : bits .and .i64 (k : Int) 1 = ((k % 2 : Nat) : Int) := by
    rw [show (1 : Int) = ((1 : Nat) : Int) from rfl, i64_and _ _ (by omega) (by omega), Nat.and_one_is_mod]
  unfold zunf
  rw [e]
  by_cases h : (k : Int) % 2 = 0
  · rw [show (k % 2 : Nat) = 0 by omega, show wrap64 (-((0 : Nat) : Int)) = 0 by unfold wrap64; omega, xor_i64_zero _ (by omega) (by omega), if_pos h]
  · rw [show (k % 2 : Nat) = 1 by omega, show wrap64 (-((1 : Nat) : Int)) = -1 by unfold wrap64; omega, xor_i64_ones _ (by omega) (by omega), if_neg h]
theorem zfold_bd (n : Int) (h0 : -288230376151711744 ≤ n) (h1 : n < 288230376151711744) : 0 ≤ zfold n ∧ zfold n < 576460752303423488 := by unfold zfold; split <;> omega
theorem zunf_bd (n : Int) (h0 : 0 ≤ n) (h1 : n < 576460752303423488) : -288230376151711744 ≤ zunf n ∧ zunf n < 288230376151711744 := by unfold zunf; split <;> omega
theorem zunf_fold (n : Int) : zunf (zfold n) = n := by unfold zfold zunf; split <;> split <;> omega
theorem zfold_unf (n : Int) (h : 0 ≤ n) : zfold (zunf n) = n := by unfold zfold zunf; split <;> split <;> omega
theorem fold_any (n : Int) (w : World) (h0 : -288230376151711744 ≤ n) (h1 : n < 288230376151711744) :
    Calls Tryd.prog 28 #[.int .i64 n] w fun e w' => e = .returned (.tuple #[.int .i64 (zfold n), .int .i64 0]) ∧ w = w' := by
  have HE := hid (zfold_bits n h0 h1)
  go_enter Tryd.func28, Tryd.ntmps28
  go_wp2_with fail
  refine (small_yes n w (by omega) h1).mono ?_
  rintro e w' ⟨rfl, rfl⟩
  go_wp2
  go_ret2
  rw [← HE.out]
  exact ⟨rfl, rfl⟩
end Go.Proofs.YtifpnfhmemdljaaDoor
