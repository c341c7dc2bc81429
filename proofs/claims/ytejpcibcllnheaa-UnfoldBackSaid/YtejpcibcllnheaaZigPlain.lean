/-
  Folding: the walks of zig.Fold and zig.Unfold, and what they compute.
-/
import Derived.Test.YtejpcibcllnheaaAdler
namespace Go.Proofs.Ytejpcibcllnheaa
open Go.RowKit
set_option linter.unusedVariables false

theorem xor_i64_zero (a : Int) (h0 : -9223372036854775808 ≤ a) (h1 : a ≤ 9223372036854775807) : bits .xor .i64 a 0 = a := by
  show IntKind.i64.wrap ((BitVec.ofInt 64 a ^^^ BitVec.ofInt 64 0).toNat : Int) = a
  rw [show BitVec.ofInt 64 0 = 0#64 from rfl, BitVec.xor_zero, IntKind.wrap_i64, BitVec.toNat_ofInt]
  omega
theorem xor_i64_ones (a : Int) (h0 : -9223372036854775808 ≤ a) (h1 : a ≤ 9223372036854775807) : bits .xor .i64 a (-1) = -a - 1 := by
  show IntKind.i64.wrap ((BitVec.ofInt 64 a ^^^ BitVec.ofInt 64 (-1)).toNat : Int) = -a - 1
  rw [show BitVec.ofInt 64 (-1) = BitVec.allOnes 64 from by decide, BitVec.xor_allOnes, IntKind.wrap_i64, BitVec.toNat_not, BitVec.toNat_ofInt]
  omega

theorem small_yes (n : Int) (w : World) (h0 : -288230376151711744 ≤ n) (h1 : n < 288230376151711744) :
    Calls Try.prog 31 #[.int .i64 n] w fun e w' => e = .returned (.bool true) ∧ w = w' := by
  go_enter Try.func31, Try.ntmps31
  go_wp2
  go_ret
  exact ⟨rfl, rfl⟩
def zfold (n : Int) : Int := if n < 0 then -2 * n - 1 else 2 * n
def zunf (m : Int) : Int := if m % 2 = 0 then m / 2 else -(m / 2) - 1
theorem zfold_bits (n : Int) (h0 : -288230376151711744 ≤ n) (h1 : n < 288230376151711744) : bits .xor .i64 (n * 2) (n / 9223372036854775808) = zfold n := by
  unfold zfold
  by_cases h : n < 0
  · rw [show n / 9223372036854775808 = -1 by omega, xor_i64_ones _ (by omega) (by omega), if_pos h]; omega
  · rw [show n / 9223372036854775808 = 0 by omega, xor_i64_zero _ (by omega) (by omega), if_neg h]; omega
theorem zunf_bits (n : Int) (h0 : 0 ≤ n) (h1 : n < 576460752303423488) : bits .xor .i64 (n / 2) (wrap64 (-bits .and .i64 n 1)) = zunf n := by
  obtain ⟨k, rfl⟩ := Int.eq_ofNat_of_zero_le h0
  have e : bits .and .i64 (k : Int) 1 = ((k % 2 : Nat) : Int) := by
    rw [show (1 : Int) = ((1 : Nat) : Int) from rfl, i64_and _ _ (by omega) (by omega), Nat.and_one_is_mod]
  unfold zunf
  rw [e]
  by_cases h : (k : Int) % 2 = 0
  · rw [show (k % 2 : Nat) = 0 by omega, show wrap64 (-((0 : Nat) : Int)) = 0 by unfold wrap64; omega, xor_i64_zero _ (by omega) (by omega), if_pos h]
  · rw [show (k % 2 : Nat) = 1 by omega, show wrap64 (-((1 : Nat) : Int)) = -1 by unfold wrap64; omega, xor_i64_ones _ (by omega) (by omega), if_neg h]
theorem zfold_bd (n : Int) (h0 : -288230376151711744 ≤ n) (h1 : n < 288230376151711744) : 0 ≤ zfold n ∧ zfold n < 576460752303423488 := by unfold zfold; split <;> omega
theorem zunf_bd (n : Int) (h0 : 0 ≤ n) (h1 : n < 576460752303423488) : -288230376151711744 ≤ zunf n ∧ zunf n < 288230376151711744 := by unfold zunf; split <;> omega
theorem zunf_fold (n : Int) : zunf (zfold n) = n := by unfold zfold zunf; split <;> split <;> omega
theorem zfold_unf (n : Int) (h : 0 ≤ n) : zfold (zunf n) = n := by unfold zfold zunf; split <;> split <;> omega
theorem fold_any (n : Int) (w : World) (h0 : -288230376151711744 ≤ n) (h1 : n < 288230376151711744) :
    Calls Try.prog 18 #[.int .i64 n] w fun e w' => e = .returned (.tuple #[.int .i64 (zfold n), .int .i64 0]) ∧ w = w' := by
  have HE := hid (zfold_bits n h0 h1)
  go_enter Try.func18, Try.ntmps18
  go_wp2_with fail
  refine (small_yes n w (by omega) h1).mono ?_
  rintro e w' ⟨rfl, rfl⟩
  go_wp2
  go_ret2
  rw [← HE.out]
  exact ⟨rfl, rfl⟩
theorem unfold_any (n : Int) (w : World) (h0 : 0 ≤ n) (h1 : n < 576460752303423488) :
    Calls Try.prog 19 #[.int .i64 n] w fun e w' => e = .returned (.tuple #[.int .i64 (zunf n), .int .i64 0]) ∧ w = w' := by
  have HE := hid (zunf_bits n h0 h1)
  go_enter Try.func19, Try.ntmps19
  go_wp2
  go_ret2
  rw [← HE.out]
  exact ⟨rfl, rfl⟩
theorem unfold_low (w : World) : Calls Try.prog 19 #[.int .i64 (-1)] w fun e w' => e = .returned (.tuple #[.int .i64 0, .int .i64 11]) ∧ w = w' := by
  go_enter Try.func19, Try.ntmps19
  go_wp2
  go_ret2
  exact ⟨rfl, rfl⟩
theorem unfold_high (w : World) : Calls Try.prog 19 #[.int .i64 576460752303423488] w fun e w' => e = .returned (.tuple #[.int .i64 0, .int .i64 11]) ∧ w = w' := by
  go_enter Try.func19, Try.ntmps19
  go_wp2
  go_ret2
  exact ⟨rfl, rfl⟩
theorem small_law (n : Int) (w : World) (h0 : -9223372036854775808 ≤ n) (h1 : n ≤ 9223372036854775807) :
    Calls Try.prog 17 #[.int .i64 n] w fun e w' => e = .returned (.int .i64 (n / 32)) ∧ w = w' := by
  go_enter Try.func17, Try.ntmps17
  go_wp2
  go_ret
  exact ⟨rfl, rfl⟩

theorem zfold_inj (x y : Int) : (zfold x == zfold y) = (x == y) := by
  rw [Bool.eq_iff_iff, beq_iff_eq, beq_iff_eq]
  exact ⟨fun h => by rw [← zunf_fold x, ← zunf_fold y, h], fun h => by rw [h]⟩
theorem zunf_inj (x y : Int) (hx : 0 ≤ x) (hy : 0 ≤ y) : (zunf x == zunf y) = (x == y) := by
  rw [Bool.eq_iff_iff, beq_iff_eq, beq_iff_eq]
  exact ⟨fun h => by rw [← zfold_unf x hx, ← zfold_unf y hy, h], fun h => by rw [h]⟩
set_option maxRecDepth 100000 in
set_option maxHeartbeats 1000000 in
theorem law_foldBack (a b : Int) (w : World) (a0 : -9223372036854775808 ≤ a) (a1 : a ≤ 9223372036854775807) (b0 : -9223372036854775808 ≤ b) (b1 : b ≤ 9223372036854775807) :
    Calls Try.prog 4 #[.int .i64 a, .int .i64 b] w fun e w' => e = .returned (.bool true) ∧ Below w.heap.size w w' := by
  have x0 : -288230376151711744 ≤ a / 32 := by omega
  have x1 : a / 32 < 288230376151711744 := by omega
  have y0 : -288230376151711744 ≤ b / 32 := by omega
  have y1 : b / 32 < 288230376151711744 := by omega
  obtain ⟨f0, f1⟩ := zfold_bd _ x0 x1
  obtain ⟨g0, g1⟩ := zfold_bd _ y0 y1
  have E1 := hid (zunf_fold (a / 32))
  have E2 := zfold_inj (a / 32) (b / 32)
  have E3 := hid (show zfold (-1) = 1 by decide)
  have E4 : Hid (∀ x y : Int, (if x < 0 then -x else x) ≥ (if y < 0 then -y else y) ∨ zfold x < zfold y) := by
    intro x y; unfold zfold; split <;> split <;> omega
  go_enter Try.func4, Try.ntmps4
  go_wp2_with fail
  refine (small_law a w a0 a1).mono ?_
  rintro e w ⟨rfl, rfl⟩
  have E4x := hid (E4.out (a / 32) (b / 32)); clear E4
  generalize a / 32 = x at *
  go_wp2_with fail
  refine (small_law b w b0 b1).mono ?_
  rintro e w ⟨rfl, rfl⟩
  generalize b / 32 = y at *
  go_wp2_with fail
  refine (fold_any x w x0 x1).mono ?_
  rintro e w ⟨rfl, rfl⟩
  go_wp2_with fail
  refine (fold_any y w y0 y1).mono ?_
  rintro e w ⟨rfl, rfl⟩
  go_wp2_with fail
  refine (unfold_any _ w f0 f1).mono ?_
  rintro e w ⟨rfl, rfl⟩
  rw [E1.out]
  go_wp2_with fail
  refine (fold_any (-1) w (by decide) (by decide)).mono ?_
  rintro e w ⟨rfl, rfl⟩
  rw [E3.out]
  by_cases hx : x < 0 <;> by_cases hy : y < 0
  all_goals
    have E5 := E4x.out
    simp only [hx, hy, if_true, if_false] at E5
    by_cases hz : zfold x < zfold y
    all_goals
      clear E4x
      go_wp2
      all_goals
        go_ret
        refine ⟨?_, bnil _⟩
        show Ending.returned (.bool _) = _
        simp
        try omega
set_option maxRecDepth 100000 in
set_option maxHeartbeats 1000000 in
theorem law_unfoldBack (a b : Int) (w : World) (a0 : -9223372036854775808 ≤ a) (a1 : a ≤ 9223372036854775807) (b0 : -9223372036854775808 ≤ b) (b1 : b ≤ 9223372036854775807) :
    Calls Try.prog 5 #[.int .i64 a, .int .i64 b] w fun e w' => e = .returned (.bool true) ∧ Below w.heap.size w w' := by
  have px := pk_lt a 576460752303423488 (by omega)
  have py := pk_lt b 576460752303423488 (by omega)
  go_enter Try.func5, Try.ntmps5
  go_wp2_with fail
  refine (picked a _ w (by omega) a0 a1 (by omega)).mono ?_
  rintro e w ⟨rfl, rfl⟩
  generalize pk a 576460752303423488 = x at *
  go_wp2_with fail
  refine (picked b _ w (by omega) b0 b1 (by omega)).mono ?_
  rintro e w ⟨rfl, rfl⟩
  generalize pk b 576460752303423488 = y at *
  obtain ⟨f0, f1⟩ := zunf_bd x (by omega) px
  have E2 := zunf_inj x y (by omega) (by omega)
  have E1 := hid (zfold_unf x (by omega))
  go_wp2_with fail
  refine (unfold_any x w (by omega) px).mono ?_
  rintro e w ⟨rfl, rfl⟩
  go_wp2_with fail
  refine (unfold_any y w (by omega) py).mono ?_
  rintro e w ⟨rfl, rfl⟩
  go_wp2_with fail
  refine (fold_any _ w f0 f1).mono ?_
  rintro e w ⟨rfl, rfl⟩
  rw [E1.out]
  go_wp2_with fail
  refine (unfold_low w).mono ?_
  rintro e w ⟨rfl, rfl⟩
  go_wp2_with fail
  refine (unfold_high w).mono ?_
  rintro e w ⟨rfl, rfl⟩
  go_wp2
  go_ret
  exact ⟨rfl, bnil _⟩
end Go.Proofs.Ytejpcibcllnheaa
