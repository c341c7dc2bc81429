/-
  Numbers in a walk: bit operations on numbers that are not below 0; a number picked below n.
-/
import Derived.Test.YtfdgklfkpofkeaaBase
namespace Go.Proofs.Ytfdgklfkpofkeaa
open Go.RowKit
set_option linter.unusedVariables false

theorem i64_ofInt (a : Nat) (ha : a < 9223372036854775808) : (BitVec.ofInt 64 (a : Int)).toNat = a := by
  rw [BitVec.ofInt_natCast, BitVec.toNat_ofNat]; exact Nat.mod_eq_of_lt (by omega)
theorem i64_and (a b : Nat) (ha : a < 9223372036854775808) (hb : b < 9223372036854775808) : bits .and .i64 (a : Int) (b : Int) = ((a &&& b : Nat) : Int) := by
  have hx : a &&& b < 2 ^ 63 := Nat.and_lt_two_pow _ (by omega)
  show IntKind.i64.wrap ((BitVec.ofInt 64 (a : Int) &&& BitVec.ofInt 64 (b : Int)).toNat : Int) = _
  rw [BitVec.toNat_and, i64_ofInt a ha, i64_ofInt b hb, IntKind.wrap_i64]
  omega
theorem i64_or (a b : Nat) (ha : a < 9223372036854775808) (hb : b < 9223372036854775808) : bits .or .i64 (a : Int) (b : Int) = ((a ||| b : Nat) : Int) := by
  have hx : a ||| b < 2 ^ 63 := Nat.or_lt_two_pow (by omega) (by omega)
  show IntKind.i64.wrap ((BitVec.ofInt 64 (a : Int) ||| BitVec.ofInt 64 (b : Int)).toNat : Int) = _
  rw [BitVec.toNat_or, i64_ofInt a ha, i64_ofInt b hb, IntKind.wrap_i64]
  omega
theorem xor_u8 (a b : UInt8) : bits .xor .u8 (a.toNat : Int) (b.toNat : Int) = ((a ^^^ b).toNat : Int) := by
  show IntKind.u8.wrap ((BitVec.ofInt 8 (a.toNat : Int) ^^^ BitVec.ofInt 8 (b.toNat : Int)).toNat : Int) = _
  have e : ∀ c : UInt8, (BitVec.ofInt 8 (c.toNat : Int)).toNat = c.toNat := by
    intro c; rw [BitVec.ofInt_natCast, BitVec.toNat_ofNat]; exact Nat.mod_eq_of_lt c.toNat_lt
  rw [BitVec.toNat_xor, e, e, UInt8.toNat_xor]
  have : a.toNat ^^^ b.toNat < 256 := by rw [← UInt8.toNat_xor]; exact (a ^^^ b).toNat_lt
  generalize a.toNat ^^^ b.toNat = n at *
  simp [IntKind.wrap, IntKind.signed, IntKind.bits]
  omega
theorem xor_i64_zero (a : Int) (h0 : -9223372036854775808 ≤ a) (h1 : a ≤ 9223372036854775807) : bits .xor .i64 a 0 = a := by
  show IntKind.i64.wrap ((BitVec.ofInt 64 a ^^^ BitVec.ofInt 64 0).toNat : Int) = a
  rw [show BitVec.ofInt 64 0 = 0#64 from rfl, BitVec.xor_zero, IntKind.wrap_i64, BitVec.toNat_ofInt]
  omega
theorem xor_i64_ones (a : Int) (h0 : -9223372036854775808 ≤ a) (h1 : a ≤ 9223372036854775807) : bits .xor .i64 a (-1) = -a - 1 := by
  show IntKind.i64.wrap ((BitVec.ofInt 64 a ^^^ BitVec.ofInt 64 (-1)).toNat : Int) = -a - 1
  rw [show BitVec.ofInt 64 (-1) = BitVec.allOnes 64 from by decide, BitVec.xor_allOnes, IntKind.wrap_i64, BitVec.toNat_not, BitVec.toNat_ofInt]
  omega
/-- a number picked from 0 on, below n -/
def pk (a n : Int) : Nat := (a % n).toNat
theorem pk_val (a n : Int) (h : 1 ≤ n) : (pk a n : Int) = a % n := by
  have r0 := Int.emod_nonneg a (show n ≠ 0 by omega)
  unfold pk; omega
theorem pk_lt (a n : Int) (h : 1 ≤ n) : (pk a n : Int) < n := by rw [pk_val a n h]; exact Int.emod_lt_of_pos a (by omega)
theorem picked0 (a n : Int) (w : World) (h : 1 ≤ n) (ha : -9223372036854775808 ≤ a) (ha1 : a ≤ 9223372036854775807) (hn : n ≤ 4611686018427387904) :
    Calls Try.prog 11 #[.int .i64 a, .int .i64 n] w fun e w' => e = .returned (.int .i64 (a % n)) ∧ w = w' := by
  have r0 := Int.emod_nonneg a (show n ≠ 0 by omega)
  have r1 := Int.emod_lt_of_pos a (show 0 < n by omega)
  by_cases hs : 0 ≤ a
  · have e : a.tmod n = a % n := Int.tmod_eq_emod_of_nonneg hs
    go_enter Try.func11, Try.ntmps11
    go_wp2
    go_ret
    exact ⟨rfl, rfl⟩
  · by_cases hd : a % n = 0
    · have e : a.tmod n = 0 := by
        have h1 : n ∣ a := Int.dvd_of_emod_eq_zero hd
        exact Int.tmod_eq_zero_of_dvd h1
      have HD := hid hd; clear hd
      clear r0 r1
      go_enter Try.func11, Try.ntmps11
      go_wp2
      go_ret
      exact ⟨by rw [HD.out]; rfl, rfl⟩
    · have e : a.tmod n = a % n - n := by
        have hnd : ¬ n ∣ a := fun hd' => hd (Int.emod_eq_zero_of_dvd hd')
        rw [Int.tmod_eq_emod]
        simp [hs, hnd]; omega
      go_enter Try.func11, Try.ntmps11
      go_wp2
      go_ret
      exact ⟨rfl, rfl⟩
theorem picked (a n : Int) (w : World) (h : 1 ≤ n) (ha : -9223372036854775808 ≤ a) (ha1 : a ≤ 9223372036854775807) (hn : n ≤ 4611686018427387904) :
    Calls Try.prog 11 #[.int .i64 a, .int .i64 n] w fun e w' => e = .returned (.int .i64 (pk a n : Int)) ∧ w = w' :=
  (picked0 a n w h ha ha1 hn).mono fun e w' ⟨h1, h2⟩ => ⟨by rw [pk_val a n h]; exact h1, h2⟩
theorem beqT {a b : Int} (h : a = b) : (a == b) = true := by rw [beq_iff_eq]; exact h
theorem beqF {a b : Int} (h : a ≠ b) : (a == b) = false := by rw [beq_eq_false_iff_ne]; exact h
theorem bneT {a b : Int} (h : a ≠ b) : (a != b) = true := by rw [bne_iff_ne]; exact h
theorem bneF {a b : Int} (h : a = b) : (a != b) = false := by rw [bne_eq_false_iff_eq]; exact h
end Go.Proofs.Ytfdgklfkpofkeaa
