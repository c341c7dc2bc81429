/-
  Bytes that are the same (sameBytes): its walk.
-/
import Derived.Test.YtpoaomjpbjcmbaaBase
namespace Go.Proofs.Ytpoaomjpbjcmbaa
open Go.RowKit
set_option linter.unusedVariables false
set_option maxHeartbeats 1000000 in
theorem same_bytesF (A B : Option Addr) (n c d : Nat) (l : List UInt8) (w : World) (hn : n ≤ 9223372036854775807) (hA : Sl w 1 A n (byts l)) (hB : Sl w 1 B n (byts l)) :
    Calls Try.prog 7 #[.slice A n c, .slice B n d] w fun e w' => e = .returned (.bool true) ∧ Below w.heap.size w w' := by
  have HA := hid hA; have HB := hid hB; clear hA hB
  have hnn : ((n : Int) != (n : Int)) = false := by simp
  go_enter Try.func7, Try.ntmps7
  go_wp2
  go_loopw [5] (fun i wr => ∃ k : Nat, k ≤ n ∧ i = .int .i64 k ∧ Below w.heap.size w wr) (fun i _ => n - (intOf i).toNat)
  case atStart => exact ⟨0, Nat.zero_le _, rfl, bnil w⟩
  case round =>
    obtain ⟨k, hk, rfl, hb⟩ := hrel
    have HBw := hid hb; clear hb
    by_cases hlt : k < n
    · obtain ⟨a, x, rfl, hx, c0⟩ := (HA.out.below HBw.out).at_ hlt
      obtain ⟨b, y, rfl, hy, c1⟩ := (HB.out.below HBw.out).at_ hlt
      obtain rfl : x = y := by rw [hx] at hy; injection hy
      clear hx hy
      have i1 : (k : Int) < (n : Int) := by omega
      have hne : ((x.toNat : Int) != (x.toNat : Int)) = false := by simp
      go_wp2_with fail
      go_quiet (fail)
      go_wp2
      go_roundw
      case rel => exact ⟨k + 1, by omega, by go_num, below_drewN HBw.out _⟩
      case measure => simp [intOf]; omega
    · go_wp2
      go_ret
      exact ⟨rfl, HBw.out⟩
end Go.Proofs.Ytpoaomjpbjcmbaa
