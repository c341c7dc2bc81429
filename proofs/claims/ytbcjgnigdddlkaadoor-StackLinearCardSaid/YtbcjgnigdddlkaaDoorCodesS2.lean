/-
  Codes of package stack: their walks. Written by gen_codess.py. (Merged by merge.py.)
-/
import Derived.Test.YtbcjgnigdddlkaaDoorCodes1
import Derived.Test.YtbcjgnigdddlkaaDoorAsm4
import Derived.Test.YtbcjgnigdddlkaaDoorCodesQ
import Derived.Test.YtbcjgnigdddlkaaDoorSAl2
namespace Go.Proofs.YtbcjgnigdddlkaaDoor
set_option linter.unusedVariables false

section
open Go.RowKit Go.Maps
theorem stack_may (N : Nat) (w : World) (h1 : 1 ≤ N) (h8 : N ≤ 8) : Calls Tryd.prog 90 #[.int .i64 (N : Int)] w fun e w' => e = .returned (.bool true) ∧ w = w' := by
  have i1 : (1 : Int) ≤ (N : Int) := by omega
  have i8 : (N : Int) ≤ 8 := by omega
  go_enter Tryd.func90, Tryd.ntmps90
  go_wp2
  go_ret
  exact ⟨rfl, rfl⟩

set_option maxHeartbeats 1000000 in
theorem stack_begun_p (B : Nat) (A : Option Addr) (c : Nat) (w : World) (hB : B ≤ w.heap.size) (hA : Names w A [[118]]) : Calls Tryd.prog 91 #[.slice A 1 c] w fun e w' => ∃ g, e = .returned (.pointer (some ⟨g, 0, none⟩)) ∧ ACat B w' g (aset [119, 105, 100, 101] 64 (aset [116, 119, 111] 2 (aset [111, 110, 101] 1 (aregs [[118]] anew)))) ∧ Below B w w' := by
  go_enter Tryd.func91, Tryd.ntmps91
  go_wp2_with fail
  refine (asm_new B [[118]] A 1 c w hB (by decide) rfl (by decide) hA).mono ?_
  rintro e w1 hp
  obtain ⟨g, rfl, k1, b1, z1⟩ := hp
  have K := hid k1; have BB := hid b1
  clear k1 b1 z1
  go_wp2_with fail
  refine (asm_set B g (aregs [[118]] anew) [111, 110, 101] 1 w1 (Nat.le_trans hB BB.out.size) (Nat.le_of_ble_eq_true (by kernel_rfl)) (Nat.le_of_ble_eq_true (by kernel_rfl)) (Nat.le_of_ble_eq_true (by kernel_rfl)) K.out).mono ?_
  rintro e w2 hp
  obtain ⟨rfl, k1, b1, z1⟩ := hp
  have K := hid k1; have BB := hid (BB.out.trans b1)
  clear k1 b1 z1
  go_wp2_with fail
  refine (asm_set B g (aset [111, 110, 101] 1 (aregs [[118]] anew)) [116, 119, 111] 2 w2 (Nat.le_trans hB BB.out.size) (Nat.le_of_ble_eq_true (by kernel_rfl)) (Nat.le_of_ble_eq_true (by kernel_rfl)) (Nat.le_of_ble_eq_true (by kernel_rfl)) K.out).mono ?_
  rintro e w3 hp
  obtain ⟨rfl, k1, b1, z1⟩ := hp
  have K := hid k1; have BB := hid (BB.out.trans b1)
  clear k1 b1 z1
  go_wp2_with fail
  refine (asm_set B g (aset [116, 119, 111] 2 (aset [111, 110, 101] 1 (aregs [[118]] anew))) [119, 105, 100, 101] 64 w3 (Nat.le_trans hB BB.out.size) (Nat.le_of_ble_eq_true (by kernel_rfl)) (Nat.le_of_ble_eq_true (by kernel_rfl)) (Nat.le_of_ble_eq_true (by kernel_rfl)) K.out).mono ?_
  rintro e w4 hp
  obtain ⟨rfl, k1, b1, z1⟩ := hp
  have K := hid k1; have BB := hid (BB.out.trans b1)
  clear k1 b1 z1
  go_wp2
  go_ret
  exact ⟨g, rfl, K.out, BB.out⟩
set_option maxHeartbeats 1000000 in
theorem stack_begun_t (B : Nat) (A : Option Addr) (c : Nat) (w : World) (hB : B ≤ w.heap.size) (hA : Names w A []) : Calls Tryd.prog 91 #[.slice A 0 c] w fun e w' => ∃ g, e = .returned (.pointer (some ⟨g, 0, none⟩)) ∧ ACat B w' g (aset [119, 105, 100, 101] 64 (aset [116, 119, 111] 2 (aset [111, 110, 101] 1 (aregs [] anew)))) ∧ Below B w w' := by
  go_enter Tryd.func91, Tryd.ntmps91
  go_wp2_with fail
  refine (asm_new B [] A 0 c w hB (by decide) rfl (by decide) hA).mono ?_
  rintro e w1 hp
  obtain ⟨g, rfl, k1, b1, z1⟩ := hp
  have K := hid k1; have BB := hid b1
  clear k1 b1 z1
  go_wp2_with fail
  refine (asm_set B g (aregs [] anew) [111, 110, 101] 1 w1 (Nat.le_trans hB BB.out.size) (Nat.le_of_ble_eq_true (by kernel_rfl)) (Nat.le_of_ble_eq_true (by kernel_rfl)) (Nat.le_of_ble_eq_true (by kernel_rfl)) K.out).mono ?_
  rintro e w2 hp
  obtain ⟨rfl, k1, b1, z1⟩ := hp
  have K := hid k1; have BB := hid (BB.out.trans b1)
  clear k1 b1 z1
  go_wp2_with fail
  refine (asm_set B g (aset [111, 110, 101] 1 (aregs [] anew)) [116, 119, 111] 2 w2 (Nat.le_trans hB BB.out.size) (Nat.le_of_ble_eq_true (by kernel_rfl)) (Nat.le_of_ble_eq_true (by kernel_rfl)) (Nat.le_of_ble_eq_true (by kernel_rfl)) K.out).mono ?_
  rintro e w3 hp
  obtain ⟨rfl, k1, b1, z1⟩ := hp
  have K := hid k1; have BB := hid (BB.out.trans b1)
  clear k1 b1 z1
  go_wp2_with fail
  refine (asm_set B g (aset [116, 119, 111] 2 (aset [111, 110, 101] 1 (aregs [] anew))) [119, 105, 100, 101] 64 w3 (Nat.le_trans hB BB.out.size) (Nat.le_of_ble_eq_true (by kernel_rfl)) (Nat.le_of_ble_eq_true (by kernel_rfl)) (Nat.le_of_ble_eq_true (by kernel_rfl)) K.out).mono ?_
  rintro e w4 hp
  obtain ⟨rfl, k1, b1, z1⟩ := hp
  have K := hid k1; have BB := hid (BB.out.trans b1)
  clear k1 b1 z1
  go_wp2
  go_ret
  exact ⟨g, rfl, K.out, BB.out⟩
def ac_take_push : AC := (aif 12 [116, 117, 114, 110] [102, 114, 101, 101] (acas [116, 117, 114, 110] [98, 97, 115, 101] 1 [110, 111, 119] (ado 3 [116, 117, 114, 110] [116, 117, 114, 110] [110, 101, 120, 116] (ado 5 [116, 117, 114, 110] [116, 117, 114, 110] [119, 105, 100, 101] (ado 3 [116, 117, 114, 110] [116, 117, 114, 110] [111, 110, 101] (ado 6 [116, 117, 114, 110] [110, 111, 119] [119, 105, 100, 101] (aword 13 [118, 97, 108, 117, 101] [97, 116] 0 (aword 13 [110, 101, 120, 116] [97, 116] 1 (ado 5 [97, 116] [110, 111, 100, 101] [116, 119, 111] (aif 12 [110, 111, 100, 101] [102, 117, 108, 108] (ado 7 [110, 111, 100, 101] [110, 111, 119] [119, 105, 100, 101] (aword 13 [110, 111, 119] [98, 97, 115, 101] 1 (aat [102, 114, 101, 101] (aset [119, 105, 100, 101] 64 (aset [116, 119, 111] 2 (aset [111, 110, 101] 1 (aregs [[118]] anew)))))))))))))))))
set_option maxHeartbeats 2000000 in
theorem stack_take_push (B g : Nat) (w : World) (hB : B ≤ w.heap.size) (K0 : ACat B w g (aset [119, 105, 100, 101] 64 (aset [116, 119, 111] 2 (aset [111, 110, 101] 1 (aregs [[118]] anew))))) : Calls Tryd.prog 92 #[.pointer (some ⟨g, 0, none⟩), .int .i64 1, .string ⟨#[102, 114, 101, 101]⟩, .string ⟨#[102, 117, 108, 108]⟩] w fun e w' => e = .returned (.tuple #[]) ∧ ACat B w' g ac_take_push ∧ Below B w w' := by
  have K := hid K0; clear K0
  have BB := hid (Below.refl B w)
  go_enter Tryd.func92, Tryd.ntmps92
  go_wp2_with fail
  refine (asm_at B g (aset [119, 105, 100, 101] 64 (aset [116, 119, 111] 2 (aset [111, 110, 101] 1 (aregs [[118]] anew)))) [102, 114, 101, 101] w (Nat.le_trans hB BB.out.size) (Nat.le_of_ble_eq_true (by kernel_rfl)) (Nat.le_of_ble_eq_true (by kernel_rfl)) (Nat.le_of_ble_eq_true (by kernel_rfl)) K.out).mono ?_
  rintro e w1 hp
  obtain ⟨rfl, k1, b1, z1⟩ := hp
  have K := hid k1; have BB := hid (BB.out.trans b1)
  clear k1 b1 z1
  go_wp2_with fail
  refine (asm_word B g (aat [102, 114, 101, 101] (aset [119, 105, 100, 101] 64 (aset [116, 119, 111] 2 (aset [111, 110, 101] 1 (aregs [[118]] anew))))) 13 [110, 111, 119] [98, 97, 115, 101] 1 w1 (Nat.le_trans hB BB.out.size) (Nat.le_of_ble_eq_true (by kernel_rfl)) (Nat.le_of_ble_eq_true (by kernel_rfl)) (Nat.le_of_ble_eq_true (by kernel_rfl)) (Nat.le_of_ble_eq_true (by kernel_rfl)) K.out).mono ?_
  rintro e w2 hp
  obtain ⟨rfl, k1, b1, z1⟩ := hp
  have K := hid k1; have BB := hid (BB.out.trans b1)
  clear k1 b1 z1
  go_wp2_with fail
  refine (asm_do B g (aword 13 [110, 111, 119] [98, 97, 115, 101] 1 (aat [102, 114, 101, 101] (aset [119, 105, 100, 101] 64 (aset [116, 119, 111] 2 (aset [111, 110, 101] 1 (aregs [[118]] anew)))))) 7 [110, 111, 100, 101] [110, 111, 119] [119, 105, 100, 101] w2 (Nat.le_trans hB BB.out.size) (Nat.le_of_ble_eq_true (by kernel_rfl)) (Nat.le_of_ble_eq_true (by kernel_rfl)) (Nat.le_of_ble_eq_true (by kernel_rfl)) (Nat.le_of_ble_eq_true (by kernel_rfl)) (Nat.le_of_ble_eq_true (by kernel_rfl)) K.out).mono ?_
  rintro e w3 hp
  obtain ⟨rfl, k1, b1, z1⟩ := hp
  have K := hid k1; have BB := hid (BB.out.trans b1)
  clear k1 b1 z1
  go_wp2_with fail
  refine (asm_if B g (ado 7 [110, 111, 100, 101] [110, 111, 119] [119, 105, 100, 101] (aword 13 [110, 111, 119] [98, 97, 115, 101] 1 (aat [102, 114, 101, 101] (aset [119, 105, 100, 101] 64 (aset [116, 119, 111] 2 (aset [111, 110, 101] 1 (aregs [[118]] anew))))))) 12 [110, 111, 100, 101] [102, 117, 108, 108] w3 (Nat.le_trans hB BB.out.size) (Nat.le_of_ble_eq_true (by kernel_rfl)) (Nat.le_of_ble_eq_true (by kernel_rfl)) (Nat.le_of_ble_eq_true (by kernel_rfl)) (Nat.le_of_ble_eq_true (by kernel_rfl)) K.out).mono ?_
  rintro e w4 hp
  obtain ⟨rfl, k1, b1, z1⟩ := hp
  have K := hid k1; have BB := hid (BB.out.trans b1)
  clear k1 b1 z1
  go_wp2_with fail
  refine (asm_do B g (aif 12 [110, 111, 100, 101] [102, 117, 108, 108] (ado 7 [110, 111, 100, 101] [110, 111, 119] [119, 105, 100, 101] (aword 13 [110, 111, 119] [98, 97, 115, 101] 1 (aat [102, 114, 101, 101] (aset [119, 105, 100, 101] 64 (aset [116, 119, 111] 2 (aset [111, 110, 101] 1 (aregs [[118]] anew)))))))) 5 [97, 116] [110, 111, 100, 101] [116, 119, 111] w4 (Nat.le_trans hB BB.out.size) (Nat.le_of_ble_eq_true (by kernel_rfl)) (Nat.le_of_ble_eq_true (by kernel_rfl)) (Nat.le_of_ble_eq_true (by kernel_rfl)) (Nat.le_of_ble_eq_true (by kernel_rfl)) (Nat.le_of_ble_eq_true (by kernel_rfl)) K.out).mono ?_
  rintro e w5 hp
  obtain ⟨rfl, k1, b1, z1⟩ := hp
  have K := hid k1; have BB := hid (BB.out.trans b1)
  clear k1 b1 z1
  go_wp2_with fail
  refine (asm_word B g (ado 5 [97, 116] [110, 111, 100, 101] [116, 119, 111] (aif 12 [110, 111, 100, 101] [102, 117, 108, 108] (ado 7 [110, 111, 100, 101] [110, 111, 119] [119, 105, 100, 101] (aword 13 [110, 111, 119] [98, 97, 115, 101] 1 (aat [102, 114, 101, 101] (aset [119, 105, 100, 101] 64 (aset [116, 119, 111] 2 (aset [111, 110, 101] 1 (aregs [[118]] anew))))))))) 13 [110, 101, 120, 116] [97, 116] 1 w5 (Nat.le_trans hB BB.out.size) (Nat.le_of_ble_eq_true (by kernel_rfl)) (Nat.le_of_ble_eq_true (by kernel_rfl)) (Nat.le_of_ble_eq_true (by kernel_rfl)) (Nat.le_of_ble_eq_true (by kernel_rfl)) K.out).mono ?_
  rintro e w6 hp
  obtain ⟨rfl, k1, b1, z1⟩ := hp
  have K := hid k1; have BB := hid (BB.out.trans b1)
  clear k1 b1 z1
  go_wp2_with fail
  refine (asm_word B g (aword 13 [110, 101, 120, 116] [97, 116] 1 (ado 5 [97, 116] [110, 111, 100, 101] [116, 119, 111] (aif 12 [110, 111, 100, 101] [102, 117, 108, 108] (ado 7 [110, 111, 100, 101] [110, 111, 119] [119, 105, 100, 101] (aword 13 [110, 111, 119] [98, 97, 115, 101] 1 (aat [102, 114, 101, 101] (aset [119, 105, 100, 101] 64 (aset [116, 119, 111] 2 (aset [111, 110, 101] 1 (aregs [[118]] anew)))))))))) 13 [118, 97, 108, 117, 101] [97, 116] 0 w6 (Nat.le_trans hB BB.out.size) (Nat.le_of_ble_eq_true (by kernel_rfl)) (Nat.le_of_ble_eq_true (by kernel_rfl)) (Nat.le_of_ble_eq_true (by kernel_rfl)) (Nat.le_of_ble_eq_true (by kernel_rfl)) K.out).mono ?_
  rintro e w7 hp
  obtain ⟨rfl, k1, b1, z1⟩ := hp
  have K := hid k1; have BB := hid (BB.out.trans b1)
  clear k1 b1 z1
  go_wp2_with fail
  refine (asm_do B g (aword 13 [118, 97, 108, 117, 101] [97, 116] 0 (aword 13 [110, 101, 120, 116] [97, 116] 1 (ado 5 [97, 116] [110, 111, 100, 101] [116, 119, 111] (aif 12 [110, 111, 100, 101] [102, 117, 108, 108] (ado 7 [110, 111, 100, 101] [110, 111, 119] [119, 105, 100, 101] (aword 13 [110, 111, 119] [98, 97, 115, 101] 1 (aat [102, 114, 101, 101] (aset [119, 105, 100, 101] 64 (aset [116, 119, 111] 2 (aset [111, 110, 101] 1 (aregs [[118]] anew))))))))))) 6 [116, 117, 114, 110] [110, 111, 119] [119, 105, 100, 101] w7 (Nat.le_trans hB BB.out.size) (Nat.le_of_ble_eq_true (by kernel_rfl)) (Nat.le_of_ble_eq_true (by kernel_rfl)) (Nat.le_of_ble_eq_true (by kernel_rfl)) (Nat.le_of_ble_eq_true (by kernel_rfl)) (Nat.le_of_ble_eq_true (by kernel_rfl)) K.out).mono ?_
  rintro e w8 hp
  obtain ⟨rfl, k1, b1, z1⟩ := hp
  have K := hid k1; have BB := hid (BB.out.trans b1)
  clear k1 b1 z1
  go_wp2_with fail
  refine (asm_do B g (ado 6 [116, 117, 114, 110] [110, 111, 119] [119, 105, 100, 101] (aword 13 [118, 97, 108, 117, 101] [97, 116] 0 (aword 13 [110, 101, 120, 116] [97, 116] 1 (ado 5 [97, 116] [110, 111, 100, 101] [116, 119, 111] (aif 12 [110, 111, 100, 101] [102, 117, 108, 108] (ado 7 [110, 111, 100, 101] [110, 111, 119] [119, 105, 100, 101] (aword 13 [110, 111, 119] [98, 97, 115, 101] 1 (aat [102, 114, 101, 101] (aset [119, 105, 100, 101] 64 (aset [116, 119, 111] 2 (aset [111, 110, 101] 1 (aregs [[118]] anew)))))))))))) 3 [116, 117, 114, 110] [116, 117, 114, 110] [111, 110, 101] w8 (Nat.le_trans hB BB.out.size) (Nat.le_of_ble_eq_true (by kernel_rfl)) (Nat.le_of_ble_eq_true (by kernel_rfl)) (Nat.le_of_ble_eq_true (by kernel_rfl)) (Nat.le_of_ble_eq_true (by kernel_rfl)) (Nat.le_of_ble_eq_true (by kernel_rfl)) K.out).mono ?_
  rintro e w9 hp
  obtain ⟨rfl, k1, b1, z1⟩ := hp
  have K := hid k1; have BB := hid (BB.out.trans b1)
  clear k1 b1 z1
  go_wp2_with fail
  refine (asm_do B g (ado 3 [116, 117, 114, 110] [116, 117, 114, 110] [111, 110, 101] (ado 6 [116, 117, 114, 110] [110, 111, 119] [119, 105, 100, 101] (aword 13 [118, 97, 108, 117, 101] [97, 116] 0 (aword 13 [110, 101, 120, 116] [97, 116] 1 (ado 5 [97, 116] [110, 111, 100, 101] [116, 119, 111] (aif 12 [110, 111, 100, 101] [102, 117, 108, 108] (ado 7 [110, 111, 100, 101] [110, 111, 119] [119, 105, 100, 101] (aword 13 [110, 111, 119] [98, 97, 115, 101] 1 (aat [102, 114, 101, 101] (aset [119, 105, 100, 101] 64 (aset [116, 119, 111] 2 (aset [111, 110, 101] 1 (aregs [[118]] anew))))))))))))) 5 [116, 117, 114, 110] [116, 117, 114, 110] [119, 105, 100, 101] w9 (Nat.le_trans hB BB.out.size) (Nat.le_of_ble_eq_true (by kernel_rfl)) (Nat.le_of_ble_eq_true (by kernel_rfl)) (Nat.le_of_ble_eq_true (by kernel_rfl)) (Nat.le_of_ble_eq_true (by kernel_rfl)) (Nat.le_of_ble_eq_true (by kernel_rfl)) K.out).mono ?_
  rintro e w10 hp
  obtain ⟨rfl, k1, b1, z1⟩ := hp
  have K := hid k1; have BB := hid (BB.out.trans b1)
  clear k1 b1 z1
  go_wp2_with fail
  refine (asm_do B g (ado 5 [116, 117, 114, 110] [116, 117, 114, 110] [119, 105, 100, 101] (ado 3 [116, 117, 114, 110] [116, 117, 114, 110] [111, 110, 101] (ado 6 [116, 117, 114, 110] [110, 111, 119] [119, 105, 100, 101] (aword 13 [118, 97, 108, 117, 101] [97, 116] 0 (aword 13 [110, 101, 120, 116] [97, 116] 1 (ado 5 [97, 116] [110, 111, 100, 101] [116, 119, 111] (aif 12 [110, 111, 100, 101] [102, 117, 108, 108] (ado 7 [110, 111, 100, 101] [110, 111, 119] [119, 105, 100, 101] (aword 13 [110, 111, 119] [98, 97, 115, 101] 1 (aat [102, 114, 101, 101] (aset [119, 105, 100, 101] 64 (aset [116, 119, 111] 2 (aset [111, 110, 101] 1 (aregs [[118]] anew)))))))))))))) 3 [116, 117, 114, 110] [116, 117, 114, 110] [110, 101, 120, 116] w10 (Nat.le_trans hB BB.out.size) (Nat.le_of_ble_eq_true (by kernel_rfl)) (Nat.le_of_ble_eq_true (by kernel_rfl)) (Nat.le_of_ble_eq_true (by kernel_rfl)) (Nat.le_of_ble_eq_true (by kernel_rfl)) (Nat.le_of_ble_eq_true (by kernel_rfl)) K.out).mono ?_
  rintro e w11 hp
  obtain ⟨rfl, k1, b1, z1⟩ := hp
  have K := hid k1; have BB := hid (BB.out.trans b1)
  clear k1 b1 z1
  go_wp2_with fail
  refine (asm_cas B g (ado 3 [116, 117, 114, 110] [116, 117, 114, 110] [110, 101, 120, 116] (ado 5 [116, 117, 114, 110] [116, 117, 114, 110] [119, 105, 100, 101] (ado 3 [116, 117, 114, 110] [116, 117, 114, 110] [111, 110, 101] (ado 6 [116, 117, 114, 110] [110, 111, 119] [119, 105, 100, 101] (aword 13 [118, 97, 108, 117, 101] [97, 116] 0 (aword 13 [110, 101, 120, 116] [97, 116] 1 (ado 5 [97, 116] [110, 111, 100, 101] [116, 119, 111] (aif 12 [110, 111, 100, 101] [102, 117, 108, 108] (ado 7 [110, 111, 100, 101] [110, 111, 119] [119, 105, 100, 101] (aword 13 [110, 111, 119] [98, 97, 115, 101] 1 (aat [102, 114, 101, 101] (aset [119, 105, 100, 101] 64 (aset [116, 119, 111] 2 (aset [111, 110, 101] 1 (aregs [[118]] anew))))))))))))))) [116, 117, 114, 110] [98, 97, 115, 101] 1 [110, 111, 119] w11 (Nat.le_trans hB BB.out.size) (Nat.le_of_ble_eq_true (by kernel_rfl)) (Nat.le_of_ble_eq_true (by kernel_rfl)) (Nat.le_of_ble_eq_true (by kernel_rfl)) (Nat.le_of_ble_eq_true (by kernel_rfl)) (Nat.le_of_ble_eq_true (by kernel_rfl)) K.out).mono ?_
  rintro e w12 hp
  obtain ⟨rfl, k1, b1, z1⟩ := hp
  have K := hid k1; have BB := hid (BB.out.trans b1)
  clear k1 b1 z1
  go_wp2_with fail
  refine (asm_if B g (acas [116, 117, 114, 110] [98, 97, 115, 101] 1 [110, 111, 119] (ado 3 [116, 117, 114, 110] [116, 117, 114, 110] [110, 101, 120, 116] (ado 5 [116, 117, 114, 110] [116, 117, 114, 110] [119, 105, 100, 101] (ado 3 [116, 117, 114, 110] [116, 117, 114, 110] [111, 110, 101] (ado 6 [116, 117, 114, 110] [110, 111, 119] [119, 105, 100, 101] (aword 13 [118, 97, 108, 117, 101] [97, 116] 0 (aword 13 [110, 101, 120, 116] [97, 116] 1 (ado 5 [97, 116] [110, 111, 100, 101] [116, 119, 111] (aif 12 [110, 111, 100, 101] [102, 117, 108, 108] (ado 7 [110, 111, 100, 101] [110, 111, 119] [119, 105, 100, 101] (aword 13 [110, 111, 119] [98, 97, 115, 101] 1 (aat [102, 114, 101, 101] (aset [119, 105, 100, 101] 64 (aset [116, 119, 111] 2 (aset [111, 110, 101] 1 (aregs [[118]] anew)))))))))))))))) 12 [116, 117, 114, 110] [102, 114, 101, 101] w12 (Nat.le_trans hB BB.out.size) (Nat.le_of_ble_eq_true (by kernel_rfl)) (Nat.le_of_ble_eq_true (by kernel_rfl)) (Nat.le_of_ble_eq_true (by kernel_rfl)) (Nat.le_of_ble_eq_true (by kernel_rfl)) K.out).mono ?_
  rintro e w13 hp
  obtain ⟨rfl, k1, b1, z1⟩ := hp
  have K := hid k1; have BB := hid (BB.out.trans b1)
  clear k1 b1 z1
  go_wp2
  go_end0
  exact ⟨rfl, K.out, BB.out⟩
def ac_give_push : AC := (aif 12 [116, 117, 114, 110] [112, 117, 116] (acas [116, 117, 114, 110] [98, 97, 115, 101] 0 [110, 111, 119] (ado 3 [116, 117, 114, 110] [116, 117, 114, 110] [110, 111, 100, 101] (ado 5 [116, 117, 114, 110] [116, 117, 114, 110] [119, 105, 100, 101] (ado 3 [116, 117, 114, 110] [116, 117, 114, 110] [111, 110, 101] (ado 6 [116, 117, 114, 110] [110, 111, 119] [119, 105, 100, 101] (aword 14 [110, 101, 120, 116] [97, 116] 1 (ado 7 [110, 101, 120, 116] [110, 111, 119] [119, 105, 100, 101] (aword 13 [110, 111, 119] [98, 97, 115, 101] 0 (aat [112, 117, 116] (aword 14 [118] [97, 116] 0 ac_take_push)))))))))))
set_option maxHeartbeats 2000000 in
theorem stack_give_push (B g : Nat) (w : World) (hB : B ≤ w.heap.size) (K0 : ACat B w g (aword 14 [118] [97, 116] 0 ac_take_push)) : Calls Tryd.prog 93 #[.pointer (some ⟨g, 0, none⟩), .int .i64 0, .string ⟨#[112, 117, 116]⟩] w fun e w' => e = .returned (.tuple #[]) ∧ ACat B w' g ac_give_push ∧ Below B w w' := by
  have K := hid K0; clear K0
  have BB := hid (Below.refl B w)
  go_enter Tryd.func93, Tryd.ntmps93
  go_wp2_with fail
  refine (asm_at B g (aword 14 [118] [97, 116] 0 ac_take_push) [112, 117, 116] w (Nat.le_trans hB BB.out.size) (Nat.le_of_ble_eq_true (by kernel_rfl)) (Nat.le_of_ble_eq_true (by kernel_rfl)) (Nat.le_of_ble_eq_true (by kernel_rfl)) K.out).mono ?_
  rintro e w1 hp
  obtain ⟨rfl, k1, b1, z1⟩ := hp
  have K := hid k1; have BB := hid (BB.out.trans b1)
  clear k1 b1 z1
  go_wp2_with fail
  refine (asm_word B g (aat [112, 117, 116] (aword 14 [118] [97, 116] 0 ac_take_push)) 13 [110, 111, 119] [98, 97, 115, 101] 0 w1 (Nat.le_trans hB BB.out.size) (Nat.le_of_ble_eq_true (by kernel_rfl)) (Nat.le_of_ble_eq_true (by kernel_rfl)) (Nat.le_of_ble_eq_true (by kernel_rfl)) (Nat.le_of_ble_eq_true (by kernel_rfl)) K.out).mono ?_
  rintro e w2 hp
  obtain ⟨rfl, k1, b1, z1⟩ := hp
  have K := hid k1; have BB := hid (BB.out.trans b1)
  clear k1 b1 z1
  go_wp2_with fail
  refine (asm_do B g (aword 13 [110, 111, 119] [98, 97, 115, 101] 0 (aat [112, 117, 116] (aword 14 [118] [97, 116] 0 ac_take_push))) 7 [110, 101, 120, 116] [110, 111, 119] [119, 105, 100, 101] w2 (Nat.le_trans hB BB.out.size) (Nat.le_of_ble_eq_true (by kernel_rfl)) (Nat.le_of_ble_eq_true (by kernel_rfl)) (Nat.le_of_ble_eq_true (by kernel_rfl)) (Nat.le_of_ble_eq_true (by kernel_rfl)) (Nat.le_of_ble_eq_true (by kernel_rfl)) K.out).mono ?_
  rintro e w3 hp
  obtain ⟨rfl, k1, b1, z1⟩ := hp
  have K := hid k1; have BB := hid (BB.out.trans b1)
  clear k1 b1 z1
  go_wp2_with fail
  refine (asm_word B g (ado 7 [110, 101, 120, 116] [110, 111, 119] [119, 105, 100, 101] (aword 13 [110, 111, 119] [98, 97, 115, 101] 0 (aat [112, 117, 116] (aword 14 [118] [97, 116] 0 ac_take_push)))) 14 [110, 101, 120, 116] [97, 116] 1 w3 (Nat.le_trans hB BB.out.size) (Nat.le_of_ble_eq_true (by kernel_rfl)) (Nat.le_of_ble_eq_true (by kernel_rfl)) (Nat.le_of_ble_eq_true (by kernel_rfl)) (Nat.le_of_ble_eq_true (by kernel_rfl)) K.out).mono ?_
  rintro e w4 hp
  obtain ⟨rfl, k1, b1, z1⟩ := hp
  have K := hid k1; have BB := hid (BB.out.trans b1)
  clear k1 b1 z1
  go_wp2_with fail
  refine (asm_do B g (aword 14 [110, 101, 120, 116] [97, 116] 1 (ado 7 [110, 101, 120, 116] [110, 111, 119] [119, 105, 100, 101] (aword 13 [110, 111, 119] [98, 97, 115, 101] 0 (aat [112, 117, 116] (aword 14 [118] [97, 116] 0 ac_take_push))))) 6 [116, 117, 114, 110] [110, 111, 119] [119, 105, 100, 101] w4 (Nat.le_trans hB BB.out.size) (Nat.le_of_ble_eq_true (by kernel_rfl)) (Nat.le_of_ble_eq_true (by kernel_rfl)) (Nat.le_of_ble_eq_true (by kernel_rfl)) (Nat.le_of_ble_eq_true (by kernel_rfl)) (Nat.le_of_ble_eq_true (by kernel_rfl)) K.out).mono ?_
  rintro e w5 hp
  obtain ⟨rfl, k1, b1, z1⟩ := hp
  have K := hid k1; have BB := hid (BB.out.trans b1)
  clear k1 b1 z1
  go_wp2_with fail
  refine (asm_do B g (ado 6 [116, 117, 114, 110] [110, 111, 119] [119, 105, 100, 101] (aword 14 [110, 101, 120, 116] [97, 116] 1 (ado 7 [110, 101, 120, 116] [110, 111, 119] [119, 105, 100, 101] (aword 13 [110, 111, 119] [98, 97, 115, 101] 0 (aat [112, 117, 116] (aword 14 [118] [97, 116] 0 ac_take_push)))))) 3 [116, 117, 114, 110] [116, 117, 114, 110] [111, 110, 101] w5 (Nat.le_trans hB BB.out.size) (Nat.le_of_ble_eq_true (by kernel_rfl)) (Nat.le_of_ble_eq_true (by kernel_rfl)) (Nat.le_of_ble_eq_true (by kernel_rfl)) (Nat.le_of_ble_eq_true (by kernel_rfl)) (Nat.le_of_ble_eq_true (by kernel_rfl)) K.out).mono ?_
  rintro e w6 hp
  obtain ⟨rfl, k1, b1, z1⟩ := hp
  have K := hid k1; have BB := hid (BB.out.trans b1)
  clear k1 b1 z1
  go_wp2_with fail
  refine (asm_do B g (ado 3 [116, 117, 114, 110] [116, 117, 114, 110] [111, 110, 101] (ado 6 [116, 117, 114, 110] [110, 111, 119] [119, 105, 100, 101] (aword 14 [110, 101, 120, 116] [97, 116] 1 (ado 7 [110, 101, 120, 116] [110, 111, 119] [119, 105, 100, 101] (aword 13 [110, 111, 119] [98, 97, 115, 101] 0 (aat [112, 117, 116] (aword 14 [118] [97, 116] 0 ac_take_push))))))) 5 [116, 117, 114, 110] [116, 117, 114, 110] [119, 105, 100, 101] w6 (Nat.le_trans hB BB.out.size) (Nat.le_of_ble_eq_true (by kernel_rfl)) (Nat.le_of_ble_eq_true (by kernel_rfl)) (Nat.le_of_ble_eq_true (by kernel_rfl)) (Nat.le_of_ble_eq_true (by kernel_rfl)) (Nat.le_of_ble_eq_true (by kernel_rfl)) K.out).mono ?_
  rintro e w7 hp
  obtain ⟨rfl, k1, b1, z1⟩ := hp
  have K := hid k1; have BB := hid (BB.out.trans b1)
  clear k1 b1 z1
  go_wp2_with fail
  refine (asm_do B g (ado 5 [116, 117, 114, 110] [116, 117, 114, 110] [119, 105, 100, 101] (ado 3 [116, 117, 114, 110] [116, 117, 114, 110] [111, 110, 101] (ado 6 [116, 117, 114, 110] [110, 111, 119] [119, 105, 100, 101] (aword 14 [110, 101, 120, 116] [97, 116] 1 (ado 7 [110, 101, 120, 116] [110, 111, 119] [119, 105, 100, 101] (aword 13 [110, 111, 119] [98, 97, 115, 101] 0 (aat [112, 117, 116] (aword 14 [118] [97, 116] 0 ac_take_push)))))))) 3 [116, 117, 114, 110] [116, 117, 114, 110] [110, 111, 100, 101] w7 (Nat.le_trans hB BB.out.size) (Nat.le_of_ble_eq_true (by kernel_rfl)) (Nat.le_of_ble_eq_true (by kernel_rfl)) (Nat.le_of_ble_eq_true (by kernel_rfl)) (Nat.le_of_ble_eq_true (by kernel_rfl)) (Nat.le_of_ble_eq_true (by kernel_rfl)) K.out).mono ?_
  rintro e w8 hp
  obtain ⟨rfl, k1, b1, z1⟩ := hp
  have K := hid k1; have BB := hid (BB.out.trans b1)
  clear k1 b1 z1
  go_wp2_with fail
  refine (asm_cas B g (ado 3 [116, 117, 114, 110] [116, 117, 114, 110] [110, 111, 100, 101] (ado 5 [116, 117, 114, 110] [116, 117, 114, 110] [119, 105, 100, 101] (ado 3 [116, 117, 114, 110] [116, 117, 114, 110] [111, 110, 101] (ado 6 [116, 117, 114, 110] [110, 111, 119] [119, 105, 100, 101] (aword 14 [110, 101, 120, 116] [97, 116] 1 (ado 7 [110, 101, 120, 116] [110, 111, 119] [119, 105, 100, 101] (aword 13 [110, 111, 119] [98, 97, 115, 101] 0 (aat [112, 117, 116] (aword 14 [118] [97, 116] 0 ac_take_push))))))))) [116, 117, 114, 110] [98, 97, 115, 101] 0 [110, 111, 119] w8 (Nat.le_trans hB BB.out.size) (Nat.le_of_ble_eq_true (by kernel_rfl)) (Nat.le_of_ble_eq_true (by kernel_rfl)) (Nat.le_of_ble_eq_true (by kernel_rfl)) (Nat.le_of_ble_eq_true (by kernel_rfl)) (Nat.le_of_ble_eq_true (by kernel_rfl)) K.out).mono ?_
  rintro e w9 hp
  obtain ⟨rfl, k1, b1, z1⟩ := hp
  have K := hid k1; have BB := hid (BB.out.trans b1)
  clear k1 b1 z1
  go_wp2_with fail
  refine (asm_if B g (acas [116, 117, 114, 110] [98, 97, 115, 101] 0 [110, 111, 119] (ado 3 [116, 117, 114, 110] [116, 117, 114, 110] [110, 111, 100, 101] (ado 5 [116, 117, 114, 110] [116, 117, 114, 110] [119, 105, 100, 101] (ado 3 [116, 117, 114, 110] [116, 117, 114, 110] [111, 110, 101] (ado 6 [116, 117, 114, 110] [110, 111, 119] [119, 105, 100, 101] (aword 14 [110, 101, 120, 116] [97, 116] 1 (ado 7 [110, 101, 120, 116] [110, 111, 119] [119, 105, 100, 101] (aword 13 [110, 111, 119] [98, 97, 115, 101] 0 (aat [112, 117, 116] (aword 14 [118] [97, 116] 0 ac_take_push)))))))))) 12 [116, 117, 114, 110] [112, 117, 116] w9 (Nat.le_trans hB BB.out.size) (Nat.le_of_ble_eq_true (by kernel_rfl)) (Nat.le_of_ble_eq_true (by kernel_rfl)) (Nat.le_of_ble_eq_true (by kernel_rfl)) (Nat.le_of_ble_eq_true (by kernel_rfl)) K.out).mono ?_
  rintro e w10 hp
  obtain ⟨rfl, k1, b1, z1⟩ := hp
  have K := hid k1; have BB := hid (BB.out.trans b1)
  clear k1 b1 z1
  go_wp2
  go_end0
  exact ⟨rfl, K.out, BB.out⟩
def ac_take_pop : AC := (aif 12 [116, 117, 114, 110] [116, 97, 107, 101] (acas [116, 117, 114, 110] [98, 97, 115, 101] 0 [110, 111, 119] (ado 3 [116, 117, 114, 110] [116, 117, 114, 110] [110, 101, 120, 116] (ado 5 [116, 117, 114, 110] [116, 117, 114, 110] [119, 105, 100, 101] (ado 3 [116, 117, 114, 110] [116, 117, 114, 110] [111, 110, 101] (ado 6 [116, 117, 114, 110] [110, 111, 119] [119, 105, 100, 101] (aword 13 [118, 97, 108, 117, 101] [97, 116] 0 (aword 13 [110, 101, 120, 116] [97, 116] 1 (ado 5 [97, 116] [110, 111, 100, 101] [116, 119, 111] (aif 12 [110, 111, 100, 101] [110, 111, 110, 101] (ado 7 [110, 111, 100, 101] [110, 111, 119] [119, 105, 100, 101] (aword 13 [110, 111, 119] [98, 97, 115, 101] 0 (aat [116, 97, 107, 101] (aset [119, 105, 100, 101] 64 (aset [116, 119, 111] 2 (aset [111, 110, 101] 1 (aregs [] anew)))))))))))))))))
set_option maxHeartbeats 2000000 in
theorem stack_take_pop (B g : Nat) (w : World) (hB : B ≤ w.heap.size) (K0 : ACat B w g (aset [119, 105, 100, 101] 64 (aset [116, 119, 111] 2 (aset [111, 110, 101] 1 (aregs [] anew))))) : Calls Tryd.prog 92 #[.pointer (some ⟨g, 0, none⟩), .int .i64 0, .string ⟨#[116, 97, 107, 101]⟩, .string ⟨#[110, 111, 110, 101]⟩] w fun e w' => e = .returned (.tuple #[]) ∧ ACat B w' g ac_take_pop ∧ Below B w w' := by
  have K := hid K0; clear K0
  have BB := hid (Below.refl B w)
  go_enter Tryd.func92, Tryd.ntmps92
  go_wp2_with fail
  refine (asm_at B g (aset [119, 105, 100, 101] 64 (aset [116, 119, 111] 2 (aset [111, 110, 101] 1 (aregs [] anew)))) [116, 97, 107, 101] w (Nat.le_trans hB BB.out.size) (Nat.le_of_ble_eq_true (by kernel_rfl)) (Nat.le_of_ble_eq_true (by kernel_rfl)) (Nat.le_of_ble_eq_true (by kernel_rfl)) K.out).mono ?_
  rintro e w1 hp
  obtain ⟨rfl, k1, b1, z1⟩ := hp
  have K := hid k1; have BB := hid (BB.out.trans b1)
  clear k1 b1 z1
  go_wp2_with fail
  refine (asm_word B g (aat [116, 97, 107, 101] (aset [119, 105, 100, 101] 64 (aset [116, 119, 111] 2 (aset [111, 110, 101] 1 (aregs [] anew))))) 13 [110, 111, 119] [98, 97, 115, 101] 0 w1 (Nat.le_trans hB BB.out.size) (Nat.le_of_ble_eq_true (by kernel_rfl)) (Nat.le_of_ble_eq_true (by kernel_rfl)) (Nat.le_of_ble_eq_true (by kernel_rfl)) (Nat.le_of_ble_eq_true (by kernel_rfl)) K.out).mono ?_
  rintro e w2 hp
  obtain ⟨rfl, k1, b1, z1⟩ := hp
  have K := hid k1; have BB := hid (BB.out.trans b1)
  clear k1 b1 z1
  go_wp2_with fail
  refine (asm_do B g (aword 13 [110, 111, 119] [98, 97, 115, 101] 0 (aat [116, 97, 107, 101] (aset [119, 105, 100, 101] 64 (aset [116, 119, 111] 2 (aset [111, 110, 101] 1 (aregs [] anew)))))) 7 [110, 111, 100, 101] [110, 111, 119] [119, 105, 100, 101] w2 (Nat.le_trans hB BB.out.size) (Nat.le_of_ble_eq_true (by kernel_rfl)) (Nat.le_of_ble_eq_true (by kernel_rfl)) (Nat.le_of_ble_eq_true (by kernel_rfl)) (Nat.le_of_ble_eq_true (by kernel_rfl)) (Nat.le_of_ble_eq_true (by kernel_rfl)) K.out).mono ?_
  rintro e w3 hp
  obtain ⟨rfl, k1, b1, z1⟩ := hp
  have K := hid k1; have BB := hid (BB.out.trans b1)
  clear k1 b1 z1
  go_wp2_with fail
  refine (asm_if B g (ado 7 [110, 111, 100, 101] [110, 111, 119] [119, 105, 100, 101] (aword 13 [110, 111, 119] [98, 97, 115, 101] 0 (aat [116, 97, 107, 101] (aset [119, 105, 100, 101] 64 (aset [116, 119, 111] 2 (aset [111, 110, 101] 1 (aregs [] anew))))))) 12 [110, 111, 100, 101] [110, 111, 110, 101] w3 (Nat.le_trans hB BB.out.size) (Nat.le_of_ble_eq_true (by kernel_rfl)) (Nat.le_of_ble_eq_true (by kernel_rfl)) (Nat.le_of_ble_eq_true (by kernel_rfl)) (Nat.le_of_ble_eq_true (by kernel_rfl)) K.out).mono ?_
  rintro e w4 hp
  obtain ⟨rfl, k1, b1, z1⟩ := hp
  have K := hid k1; have BB := hid (BB.out.trans b1)
  clear k1 b1 z1
  go_wp2_with fail
  refine (asm_do B g (aif 12 [110, 111, 100, 101] [110, 111, 110, 101] (ado 7 [110, 111, 100, 101] [110, 111, 119] [119, 105, 100, 101] (aword 13 [110, 111, 119] [98, 97, 115, 101] 0 (aat [116, 97, 107, 101] (aset [119, 105, 100, 101] 64 (aset [116, 119, 111] 2 (aset [111, 110, 101] 1 (aregs [] anew)))))))) 5 [97, 116] [110, 111, 100, 101] [116, 119, 111] w4 (Nat.le_trans hB BB.out.size) (Nat.le_of_ble_eq_true (by kernel_rfl)) (Nat.le_of_ble_eq_true (by kernel_rfl)) (Nat.le_of_ble_eq_true (by kernel_rfl)) (Nat.le_of_ble_eq_true (by kernel_rfl)) (Nat.le_of_ble_eq_true (by kernel_rfl)) K.out).mono ?_
  rintro e w5 hp
  obtain ⟨rfl, k1, b1, z1⟩ := hp
  have K := hid k1; have BB := hid (BB.out.trans b1)
  clear k1 b1 z1
  go_wp2_with fail
  refine (asm_word B g (ado 5 [97, 116] [110, 111, 100, 101] [116, 119, 111] (aif 12 [110, 111, 100, 101] [110, 111, 110, 101] (ado 7 [110, 111, 100, 101] [110, 111, 119] [119, 105, 100, 101] (aword 13 [110, 111, 119] [98, 97, 115, 101] 0 (aat [116, 97, 107, 101] (aset [119, 105, 100, 101] 64 (aset [116, 119, 111] 2 (aset [111, 110, 101] 1 (aregs [] anew))))))))) 13 [110, 101, 120, 116] [97, 116] 1 w5 (Nat.le_trans hB BB.out.size) (Nat.le_of_ble_eq_true (by kernel_rfl)) (Nat.le_of_ble_eq_true (by kernel_rfl)) (Nat.le_of_ble_eq_true (by kernel_rfl)) (Nat.le_of_ble_eq_true (by kernel_rfl)) K.out).mono ?_
  rintro e w6 hp
  obtain ⟨rfl, k1, b1, z1⟩ := hp
  have K := hid k1; have BB := hid (BB.out.trans b1)
  clear k1 b1 z1
  go_wp2_with fail
  refine (asm_word B g (aword 13 [110, 101, 120, 116] [97, 116] 1 (ado 5 [97, 116] [110, 111, 100, 101] [116, 119, 111] (aif 12 [110, 111, 100, 101] [110, 111, 110, 101] (ado 7 [110, 111, 100, 101] [110, 111, 119] [119, 105, 100, 101] (aword 13 [110, 111, 119] [98, 97, 115, 101] 0 (aat [116, 97, 107, 101] (aset [119, 105, 100, 101] 64 (aset [116, 119, 111] 2 (aset [111, 110, 101] 1 (aregs [] anew)))))))))) 13 [118, 97, 108, 117, 101] [97, 116] 0 w6 (Nat.le_trans hB BB.out.size) (Nat.le_of_ble_eq_true (by kernel_rfl)) (Nat.le_of_ble_eq_true (by kernel_rfl)) (Nat.le_of_ble_eq_true (by kernel_rfl)) (Nat.le_of_ble_eq_true (by kernel_rfl)) K.out).mono ?_
  rintro e w7 hp
  obtain ⟨rfl, k1, b1, z1⟩ := hp
  have K := hid k1; have BB := hid (BB.out.trans b1)
  clear k1 b1 z1
  go_wp2_with fail
  refine (asm_do B g (aword 13 [118, 97, 108, 117, 101] [97, 116] 0 (aword 13 [110, 101, 120, 116] [97, 116] 1 (ado 5 [97, 116] [110, 111, 100, 101] [116, 119, 111] (aif 12 [110, 111, 100, 101] [110, 111, 110, 101] (ado 7 [110, 111, 100, 101] [110, 111, 119] [119, 105, 100, 101] (aword 13 [110, 111, 119] [98, 97, 115, 101] 0 (aat [116, 97, 107, 101] (aset [119, 105, 100, 101] 64 (aset [116, 119, 111] 2 (aset [111, 110, 101] 1 (aregs [] anew))))))))))) 6 [116, 117, 114, 110] [110, 111, 119] [119, 105, 100, 101] w7 (Nat.le_trans hB BB.out.size) (Nat.le_of_ble_eq_true (by kernel_rfl)) (Nat.le_of_ble_eq_true (by kernel_rfl)) (Nat.le_of_ble_eq_true (by kernel_rfl)) (Nat.le_of_ble_eq_true (by kernel_rfl)) (Nat.le_of_ble_eq_true (by kernel_rfl)) K.out).mono ?_
  rintro e w8 hp
  obtain ⟨rfl, k1, b1, z1⟩ := hp
  have K := hid k1; have BB := hid (BB.out.trans b1)
  clear k1 b1 z1
  go_wp2_with fail
  refine (asm_do B g (ado 6 [116, 117, 114, 110] [110, 111, 119] [119, 105, 100, 101] (aword 13 [118, 97, 108, 117, 101] [97, 116] 0 (aword 13 [110, 101, 120, 116] [97, 116] 1 (ado 5 [97, 116] [110, 111, 100, 101] [116, 119, 111] (aif 12 [110, 111, 100, 101] [110, 111, 110, 101] (ado 7 [110, 111, 100, 101] [110, 111, 119] [119, 105, 100, 101] (aword 13 [110, 111, 119] [98, 97, 115, 101] 0 (aat [116, 97, 107, 101] (aset [119, 105, 100, 101] 64 (aset [116, 119, 111] 2 (aset [111, 110, 101] 1 (aregs [] anew)))))))))))) 3 [116, 117, 114, 110] [116, 117, 114, 110] [111, 110, 101] w8 (Nat.le_trans hB BB.out.size) (Nat.le_of_ble_eq_true (by kernel_rfl)) (Nat.le_of_ble_eq_true (by kernel_rfl)) (Nat.le_of_ble_eq_true (by kernel_rfl)) (Nat.le_of_ble_eq_true (by kernel_rfl)) (Nat.le_of_ble_eq_true (by kernel_rfl)) K.out).mono ?_
  rintro e w9 hp
  obtain ⟨rfl, k1, b1, z1⟩ := hp
  have K := hid k1; have BB := hid (BB.out.trans b1)
  clear k1 b1 z1
  go_wp2_with fail
  refine (asm_do B g (ado 3 [116, 117, 114, 110] [116, 117, 114, 110] [111, 110, 101] (ado 6 [116, 117, 114, 110] [110, 111, 119] [119, 105, 100, 101] (aword 13 [118, 97, 108, 117, 101] [97, 116] 0 (aword 13 [110, 101, 120, 116] [97, 116] 1 (ado 5 [97, 116] [110, 111, 100, 101] [116, 119, 111] (aif 12 [110, 111, 100, 101] [110, 111, 110, 101] (ado 7 [110, 111, 100, 101] [110, 111, 119] [119, 105, 100, 101] (aword 13 [110, 111, 119] [98, 97, 115, 101] 0 (aat [116, 97, 107, 101] (aset [119, 105, 100, 101] 64 (aset [116, 119, 111] 2 (aset [111, 110, 101] 1 (aregs [] anew))))))))))))) 5 [116, 117, 114, 110] [116, 117, 114, 110] [119, 105, 100, 101] w9 (Nat.le_trans hB BB.out.size) (Nat.le_of_ble_eq_true (by kernel_rfl)) (Nat.le_of_ble_eq_true (by kernel_rfl)) (Nat.le_of_ble_eq_true (by kernel_rfl)) (Nat.le_of_ble_eq_true (by kernel_rfl)) (Nat.le_of_ble_eq_true (by kernel_rfl)) K.out).mono ?_
  rintro e w10 hp
  obtain ⟨rfl, k1, b1, z1⟩ := hp
  have K := hid k1; have BB := hid (BB.out.trans b1)
  clear k1 b1 z1
  go_wp2_with fail
  refine (asm_do B g (ado 5 [116, 117, 114, 110] [116, 117, 114, 110] [119, 105, 100, 101] (ado 3 [116, 117, 114, 110] [116, 117, 114, 110] [111, 110, 101] (ado 6 [116, 117, 114, 110] [110, 111, 119] [119, 105, 100, 101] (aword 13 [118, 97, 108, 117, 101] [97, 116] 0 (aword 13 [110, 101, 120, 116] [97, 116] 1 (ado 5 [97, 116] [110, 111, 100, 101] [116, 119, 111] (aif 12 [110, 111, 100, 101] [110, 111, 110, 101] (ado 7 [110, 111, 100, 101] [110, 111, 119] [119, 105, 100, 101] (aword 13 [110, 111, 119] [98, 97, 115, 101] 0 (aat [116, 97, 107, 101] (aset [119, 105, 100, 101] 64 (aset [116, 119, 111] 2 (aset [111, 110, 101] 1 (aregs [] anew)))))))))))))) 3 [116, 117, 114, 110] [116, 117, 114, 110] [110, 101, 120, 116] w10 (Nat.le_trans hB BB.out.size) (Nat.le_of_ble_eq_true (by kernel_rfl)) (Nat.le_of_ble_eq_true (by kernel_rfl)) (Nat.le_of_ble_eq_true (by kernel_rfl)) (Nat.le_of_ble_eq_true (by kernel_rfl)) (Nat.le_of_ble_eq_true (by kernel_rfl)) K.out).mono ?_
  rintro e w11 hp
  obtain ⟨rfl, k1, b1, z1⟩ := hp
  have K := hid k1; have BB := hid (BB.out.trans b1)
  clear k1 b1 z1
  go_wp2_with fail
  refine (asm_cas B g (ado 3 [116, 117, 114, 110] [116, 117, 114, 110] [110, 101, 120, 116] (ado 5 [116, 117, 114, 110] [116, 117, 114, 110] [119, 105, 100, 101] (ado 3 [116, 117, 114, 110] [116, 117, 114, 110] [111, 110, 101] (ado 6 [116, 117, 114, 110] [110, 111, 119] [119, 105, 100, 101] (aword 13 [118, 97, 108, 117, 101] [97, 116] 0 (aword 13 [110, 101, 120, 116] [97, 116] 1 (ado 5 [97, 116] [110, 111, 100, 101] [116, 119, 111] (aif 12 [110, 111, 100, 101] [110, 111, 110, 101] (ado 7 [110, 111, 100, 101] [110, 111, 119] [119, 105, 100, 101] (aword 13 [110, 111, 119] [98, 97, 115, 101] 0 (aat [116, 97, 107, 101] (aset [119, 105, 100, 101] 64 (aset [116, 119, 111] 2 (aset [111, 110, 101] 1 (aregs [] anew))))))))))))))) [116, 117, 114, 110] [98, 97, 115, 101] 0 [110, 111, 119] w11 (Nat.le_trans hB BB.out.size) (Nat.le_of_ble_eq_true (by kernel_rfl)) (Nat.le_of_ble_eq_true (by kernel_rfl)) (Nat.le_of_ble_eq_true (by kernel_rfl)) (Nat.le_of_ble_eq_true (by kernel_rfl)) (Nat.le_of_ble_eq_true (by kernel_rfl)) K.out).mono ?_
  rintro e w12 hp
  obtain ⟨rfl, k1, b1, z1⟩ := hp
  have K := hid k1; have BB := hid (BB.out.trans b1)
  clear k1 b1 z1
  go_wp2_with fail
  refine (asm_if B g (acas [116, 117, 114, 110] [98, 97, 115, 101] 0 [110, 111, 119] (ado 3 [116, 117, 114, 110] [116, 117, 114, 110] [110, 101, 120, 116] (ado 5 [116, 117, 114, 110] [116, 117, 114, 110] [119, 105, 100, 101] (ado 3 [116, 117, 114, 110] [116, 117, 114, 110] [111, 110, 101] (ado 6 [116, 117, 114, 110] [110, 111, 119] [119, 105, 100, 101] (aword 13 [118, 97, 108, 117, 101] [97, 116] 0 (aword 13 [110, 101, 120, 116] [97, 116] 1 (ado 5 [97, 116] [110, 111, 100, 101] [116, 119, 111] (aif 12 [110, 111, 100, 101] [110, 111, 110, 101] (ado 7 [110, 111, 100, 101] [110, 111, 119] [119, 105, 100, 101] (aword 13 [110, 111, 119] [98, 97, 115, 101] 0 (aat [116, 97, 107, 101] (aset [119, 105, 100, 101] 64 (aset [116, 119, 111] 2 (aset [111, 110, 101] 1 (aregs [] anew)))))))))))))))) 12 [116, 117, 114, 110] [116, 97, 107, 101] w12 (Nat.le_trans hB BB.out.size) (Nat.le_of_ble_eq_true (by kernel_rfl)) (Nat.le_of_ble_eq_true (by kernel_rfl)) (Nat.le_of_ble_eq_true (by kernel_rfl)) (Nat.le_of_ble_eq_true (by kernel_rfl)) K.out).mono ?_
  rintro e w13 hp
  obtain ⟨rfl, k1, b1, z1⟩ := hp
  have K := hid k1; have BB := hid (BB.out.trans b1)
  clear k1 b1 z1
  go_wp2
  go_end0
  exact ⟨rfl, K.out, BB.out⟩
def ac_give_pop : AC := (aif 12 [116, 117, 114, 110] [102, 114, 101, 101] (acas [116, 117, 114, 110] [98, 97, 115, 101] 1 [110, 111, 119] (ado 3 [116, 117, 114, 110] [116, 117, 114, 110] [110, 111, 100, 101] (ado 5 [116, 117, 114, 110] [116, 117, 114, 110] [119, 105, 100, 101] (ado 3 [116, 117, 114, 110] [116, 117, 114, 110] [111, 110, 101] (ado 6 [116, 117, 114, 110] [110, 111, 119] [119, 105, 100, 101] (aword 14 [110, 101, 120, 116] [97, 116] 1 (ado 7 [110, 101, 120, 116] [110, 111, 119] [119, 105, 100, 101] (aword 13 [110, 111, 119] [98, 97, 115, 101] 1 (aat [102, 114, 101, 101] (acopy [118] [118, 97, 108, 117, 101] ac_take_pop)))))))))))
set_option maxHeartbeats 2000000 in
theorem stack_give_pop (B g : Nat) (w : World) (hB : B ≤ w.heap.size) (K0 : ACat B w g (acopy [118] [118, 97, 108, 117, 101] ac_take_pop)) : Calls Tryd.prog 93 #[.pointer (some ⟨g, 0, none⟩), .int .i64 1, .string ⟨#[102, 114, 101, 101]⟩] w fun e w' => e = .returned (.tuple #[]) ∧ ACat B w' g ac_give_pop ∧ Below B w w' := by
  have K := hid K0; clear K0
  have BB := hid (Below.refl B w)
  go_enter Tryd.func93, Tryd.ntmps93
  go_wp2_with fail
  refine (asm_at B g (acopy [118] [118, 97, 108, 117, 101] ac_take_pop) [102, 114, 101, 101] w (Nat.le_trans hB BB.out.size) (Nat.le_of_ble_eq_true (by kernel_rfl)) (Nat.le_of_ble_eq_true (by kernel_rfl)) (Nat.le_of_ble_eq_true (by kernel_rfl)) K.out).mono ?_
  rintro e w1 hp
  obtain ⟨rfl, k1, b1, z1⟩ := hp
  have K := hid k1; have BB := hid (BB.out.trans b1)
  clear k1 b1 z1
  go_wp2_with fail
  refine (asm_word B g (aat [102, 114, 101, 101] (acopy [118] [118, 97, 108, 117, 101] ac_take_pop)) 13 [110, 111, 119] [98, 97, 115, 101] 1 w1 (Nat.le_trans hB BB.out.size) (Nat.le_of_ble_eq_true (by kernel_rfl)) (Nat.le_of_ble_eq_true (by kernel_rfl)) (Nat.le_of_ble_eq_true (by kernel_rfl)) (Nat.le_of_ble_eq_true (by kernel_rfl)) K.out).mono ?_
  rintro e w2 hp
  obtain ⟨rfl, k1, b1, z1⟩ := hp
  have K := hid k1; have BB := hid (BB.out.trans b1)
  clear k1 b1 z1
  go_wp2_with fail
  refine (asm_do B g (aword 13 [110, 111, 119] [98, 97, 115, 101] 1 (aat [102, 114, 101, 101] (acopy [118] [118, 97, 108, 117, 101] ac_take_pop))) 7 [110, 101, 120, 116] [110, 111, 119] [119, 105, 100, 101] w2 (Nat.le_trans hB BB.out.size) (Nat.le_of_ble_eq_true (by kernel_rfl)) (Nat.le_of_ble_eq_true (by kernel_rfl)) (Nat.le_of_ble_eq_true (by kernel_rfl)) (Nat.le_of_ble_eq_true (by kernel_rfl)) (Nat.le_of_ble_eq_true (by kernel_rfl)) K.out).mono ?_
  rintro e w3 hp
  obtain ⟨rfl, k1, b1, z1⟩ := hp
  have K := hid k1; have BB := hid (BB.out.trans b1)
  clear k1 b1 z1
  go_wp2_with fail
  refine (asm_word B g (ado 7 [110, 101, 120, 116] [110, 111, 119] [119, 105, 100, 101] (aword 13 [110, 111, 119] [98, 97, 115, 101] 1 (aat [102, 114, 101, 101] (acopy [118] [118, 97, 108, 117, 101] ac_take_pop)))) 14 [110, 101, 120, 116] [97, 116] 1 w3 (Nat.le_trans hB BB.out.size) (Nat.le_of_ble_eq_true (by kernel_rfl)) (Nat.le_of_ble_eq_true (by kernel_rfl)) (Nat.le_of_ble_eq_true (by kernel_rfl)) (Nat.le_of_ble_eq_true (by kernel_rfl)) K.out).mono ?_
  rintro e w4 hp
  obtain ⟨rfl, k1, b1, z1⟩ := hp
  have K := hid k1; have BB := hid (BB.out.trans b1)
  clear k1 b1 z1
  go_wp2_with fail
  refine (asm_do B g (aword 14 [110, 101, 120, 116] [97, 116] 1 (ado 7 [110, 101, 120, 116] [110, 111, 119] [119, 105, 100, 101] (aword 13 [110, 111, 119] [98, 97, 115, 101] 1 (aat [102, 114, 101, 101] (acopy [118] [118, 97, 108, 117, 101] ac_take_pop))))) 6 [116, 117, 114, 110] [110, 111, 119] [119, 105, 100, 101] w4 (Nat.le_trans hB BB.out.size) (Nat.le_of_ble_eq_true (by kernel_rfl)) (Nat.le_of_ble_eq_true (by kernel_rfl)) (Nat.le_of_ble_eq_true (by kernel_rfl)) (Nat.le_of_ble_eq_true (by kernel_rfl)) (Nat.le_of_ble_eq_true (by kernel_rfl)) K.out).mono ?_
  rintro e w5 hp
  obtain ⟨rfl, k1, b1, z1⟩ := hp
  have K := hid k1; have BB := hid (BB.out.trans b1)
  clear k1 b1 z1
  go_wp2_with fail
  refine (asm_do B g (ado 6 [116, 117, 114, 110] [110, 111, 119] [119, 105, 100, 101] (aword 14 [110, 101, 120, 116] [97, 116] 1 (ado 7 [110, 101, 120, 116] [110, 111, 119] [119, 105, 100, 101] (aword 13 [110, 111, 119] [98, 97, 115, 101] 1 (aat [102, 114, 101, 101] (acopy [118] [118, 97, 108, 117, 101] ac_take_pop)))))) 3 [116, 117, 114, 110] [116, 117, 114, 110] [111, 110, 101] w5 (Nat.le_trans hB BB.out.size) (Nat.le_of_ble_eq_true (by kernel_rfl)) (Nat.le_of_ble_eq_true (by kernel_rfl)) (Nat.le_of_ble_eq_true (by kernel_rfl)) (Nat.le_of_ble_eq_true (by kernel_rfl)) (Nat.le_of_ble_eq_true (by kernel_rfl)) K.out).mono ?_
  rintro e w6 hp
  obtain ⟨rfl, k1, b1, z1⟩ := hp
  have K := hid k1; have BB := hid (BB.out.trans b1)
  clear k1 b1 z1
  go_wp2_with fail
  refine (asm_do B g (ado 3 [116, 117, 114, 110] [116, 117, 114, 110] [111, 110, 101] (ado 6 [116, 117, 114, 110] [110, 111, 119] [119, 105, 100, 101] (aword 14 [110, 101, 120, 116] [97, 116] 1 (ado 7 [110, 101, 120, 116] [110, 111, 119] [119, 105, 100, 101] (aword 13 [110, 111, 119] [98, 97, 115, 101] 1 (aat [102, 114, 101, 101] (acopy [118] [118, 97, 108, 117, 101] ac_take_pop))))))) 5 [116, 117, 114, 110] [116, 117, 114, 110] [119, 105, 100, 101] w6 (Nat.le_trans hB BB.out.size) (Nat.le_of_ble_eq_true (by kernel_rfl)) (Nat.le_of_ble_eq_true (by kernel_rfl)) (Nat.le_of_ble_eq_true (by kernel_rfl)) (Nat.le_of_ble_eq_true (by kernel_rfl)) (Nat.le_of_ble_eq_true (by kernel_rfl)) K.out).mono ?_
  rintro e w7 hp
  obtain ⟨rfl, k1, b1, z1⟩ := hp
  have K := hid k1; have BB := hid (BB.out.trans b1)
  clear k1 b1 z1
  go_wp2_with fail
  refine (asm_do B g (ado 5 [116, 117, 114, 110] [116, 117, 114, 110] [119, 105, 100, 101] (ado 3 [116, 117, 114, 110] [116, 117, 114, 110] [111, 110, 101] (ado 6 [116, 117, 114, 110] [110, 111, 119] [119, 105, 100, 101] (aword 14 [110, 101, 120, 116] [97, 116] 1 (ado 7 [110, 101, 120, 116] [110, 111, 119] [119, 105, 100, 101] (aword 13 [110, 111, 119] [98, 97, 115, 101] 1 (aat [102, 114, 101, 101] (acopy [118] [118, 97, 108, 117, 101] ac_take_pop)))))))) 3 [116, 117, 114, 110] [116, 117, 114, 110] [110, 111, 100, 101] w7 (Nat.le_trans hB BB.out.size) (Nat.le_of_ble_eq_true (by kernel_rfl)) (Nat.le_of_ble_eq_true (by kernel_rfl)) (Nat.le_of_ble_eq_true (by kernel_rfl)) (Nat.le_of_ble_eq_true (by kernel_rfl)) (Nat.le_of_ble_eq_true (by kernel_rfl)) K.out).mono ?_
  rintro e w8 hp
  obtain ⟨rfl, k1, b1, z1⟩ := hp
  have K := hid k1; have BB := hid (BB.out.trans b1)
  clear k1 b1 z1
  go_wp2_with fail
  refine (asm_cas B g (ado 3 [116, 117, 114, 110] [116, 117, 114, 110] [110, 111, 100, 101] (ado 5 [116, 117, 114, 110] [116, 117, 114, 110] [119, 105, 100, 101] (ado 3 [116, 117, 114, 110] [116, 117, 114, 110] [111, 110, 101] (ado 6 [116, 117, 114, 110] [110, 111, 119] [119, 105, 100, 101] (aword 14 [110, 101, 120, 116] [97, 116] 1 (ado 7 [110, 101, 120, 116] [110, 111, 119] [119, 105, 100, 101] (aword 13 [110, 111, 119] [98, 97, 115, 101] 1 (aat [102, 114, 101, 101] (acopy [118] [118, 97, 108, 117, 101] ac_take_pop))))))))) [116, 117, 114, 110] [98, 97, 115, 101] 1 [110, 111, 119] w8 (Nat.le_trans hB BB.out.size) (Nat.le_of_ble_eq_true (by kernel_rfl)) (Nat.le_of_ble_eq_true (by kernel_rfl)) (Nat.le_of_ble_eq_true (by kernel_rfl)) (Nat.le_of_ble_eq_true (by kernel_rfl)) (Nat.le_of_ble_eq_true (by kernel_rfl)) K.out).mono ?_
  rintro e w9 hp
  obtain ⟨rfl, k1, b1, z1⟩ := hp
  have K := hid k1; have BB := hid (BB.out.trans b1)
  clear k1 b1 z1
  go_wp2_with fail
  refine (asm_if B g (acas [116, 117, 114, 110] [98, 97, 115, 101] 1 [110, 111, 119] (ado 3 [116, 117, 114, 110] [116, 117, 114, 110] [110, 111, 100, 101] (ado 5 [116, 117, 114, 110] [116, 117, 114, 110] [119, 105, 100, 101] (ado 3 [116, 117, 114, 110] [116, 117, 114, 110] [111, 110, 101] (ado 6 [116, 117, 114, 110] [110, 111, 119] [119, 105, 100, 101] (aword 14 [110, 101, 120, 116] [97, 116] 1 (ado 7 [110, 101, 120, 116] [110, 111, 119] [119, 105, 100, 101] (aword 13 [110, 111, 119] [98, 97, 115, 101] 1 (aat [102, 114, 101, 101] (acopy [118] [118, 97, 108, 117, 101] ac_take_pop)))))))))) 12 [116, 117, 114, 110] [102, 114, 101, 101] w9 (Nat.le_trans hB BB.out.size) (Nat.le_of_ble_eq_true (by kernel_rfl)) (Nat.le_of_ble_eq_true (by kernel_rfl)) (Nat.le_of_ble_eq_true (by kernel_rfl)) (Nat.le_of_ble_eq_true (by kernel_rfl)) K.out).mono ?_
  rintro e w10 hp
  obtain ⟨rfl, k1, b1, z1⟩ := hp
  have K := hid k1; have BB := hid (BB.out.trans b1)
  clear k1 b1 z1
  go_wp2
  go_end0
  exact ⟨rfl, K.out, BB.out⟩
set_option maxHeartbeats 1000000 in
theorem stack_push (N : Nat) (w : World) (h1 : 1 ≤ N) (h8 : N ≤ 8) : Calls Tryd.prog 61 #[.int .i64 (N : Int)] w fun e w' => CodePost2 w spushCode e w' := by
  go_enter Tryd.func61, Tryd.ntmps61
  go_wp2_with fail
  refine (stack_may N w h1 h8).mono ?_
  rintro e w' ⟨rfl, rfl⟩
  go_wp2_with fail
  refine (stack_begun_p w.heap.size (some ⟨w.heap.size, 0, none⟩) 1 (w.alloc (.cells #[.string ⟨#[118]⟩] 9)) (bnew (bnil w) _).size (.inr ⟨_, rfl, Blk.new w _ _⟩)).mono ?_
  rintro e w1 hp
  obtain ⟨g, rfl, k1, b1⟩ := hp
  have K := hid k1; have BB := hid ((bnew (bnil w) (.cells #[.string ⟨#[118]⟩] 9)).trans b1)
  clear k1 b1
  go_wp2_with fail
  refine (stack_take_push w.heap.size g w1 BB.out.size K.out).mono ?_
  rintro e w2 ⟨rfl, k1, b1⟩
  have K := hid k1; have BB := hid (BB.out.trans b1)
  clear k1 b1
  go_wp2_with fail
  refine (asm_word w.heap.size g ac_take_push 14 [118] [97, 116] 0 w2 BB.out.size (Nat.le_of_ble_eq_true (by kernel_rfl)) (Nat.le_of_ble_eq_true (by kernel_rfl)) (Nat.le_of_ble_eq_true (by kernel_rfl)) (Nat.le_of_ble_eq_true (by kernel_rfl)) K.out).mono ?_
  rintro e w3 hp
  obtain ⟨rfl, k1, b1, z1⟩ := hp
  have K := hid k1; have BB := hid (BB.out.trans b1)
  clear k1 b1 z1
  go_wp2_with fail
  refine (stack_give_push w.heap.size g w3 BB.out.size K.out).mono ?_
  rintro e w4 ⟨rfl, k1, b1⟩
  have K := hid k1; have BB := hid (BB.out.trans b1)
  clear k1 b1
  go_wp2_with fail
  refine (asm_tell w.heap.size g ac_give_push [[111, 110, 101]] w4.heap.size 1 (w4.alloc (.cells #[.string ⟨#[111, 110, 101]⟩] 9)) (Nat.le_trans BB.out.size (bnew (bnil _) _).size) (by decide) rfl (by decide) (Nat.le_of_ble_eq_true (by kernel_rfl)) (Nat.le_of_ble_eq_true (by kernel_rfl)) (K.out.below (bnew (bnil _) _)) (Blk.new w4 _ _)).mono ?_
  rintro e w5 hp
  obtain ⟨rfl, k1, b1, z1⟩ := hp
  have K := hid k1; have BB := hid ((bgo BB.out (bnew (bnil w4) (.cells #[.string ⟨#[111, 110, 101]⟩] 9))).trans b1)
  clear k1 b1 z1
  go_wp2_with fail
  refine (asm_done w.heap.size g (atell [[111, 110, 101]] ac_give_push) w5 BB.out.size (Nat.le_of_ble_eq_true (by kernel_rfl)) K.out).mono ?_
  rintro e w6 hp
  obtain ⟨rfl, k1, b1, z1⟩ := hp
  have K := hid k1; have BB := hid (BB.out.trans b1)
  clear k1 b1 z1
  go_wp2_with fail
  refine (asm_at w.heap.size g (adone (atell [[111, 110, 101]] ac_give_push)) [102, 117, 108, 108] w6 BB.out.size (Nat.le_of_ble_eq_true (by kernel_rfl)) (Nat.le_of_ble_eq_true (by kernel_rfl)) (Nat.le_of_ble_eq_true (by kernel_rfl)) K.out).mono ?_
  rintro e w7 hp
  obtain ⟨rfl, k1, b1, z1⟩ := hp
  have K := hid k1; have BB := hid (BB.out.trans b1)
  clear k1 b1 z1
  go_wp2_with fail
  refine (asm_tell w.heap.size g (aat [102, 117, 108, 108] (adone (atell [[111, 110, 101]] ac_give_push))) [[98, 97, 115, 101]] w7.heap.size 1 (w7.alloc (.cells #[.string ⟨#[98, 97, 115, 101]⟩] 9)) (Nat.le_trans BB.out.size (bnew (bnil _) _).size) (by decide) rfl (by decide) (Nat.le_of_ble_eq_true (by kernel_rfl)) (Nat.le_of_ble_eq_true (by kernel_rfl)) (K.out.below (bnew (bnil _) _)) (Blk.new w7 _ _)).mono ?_
  rintro e w8 hp
  obtain ⟨rfl, k1, b1, z1⟩ := hp
  have K := hid k1; have BB := hid ((bgo BB.out (bnew (bnil w7) (.cells #[.string ⟨#[98, 97, 115, 101]⟩] 9))).trans b1)
  clear k1 b1 z1
  go_wp2_with fail
  refine (asm_ops w.heap.size g (atell [[98, 97, 115, 101]] (aat [102, 117, 108, 108] (adone (atell [[111, 110, 101]] ac_give_push)))) w8 BB.out.size (gotos_in (by kernel_rfl)) (Nat.le_of_ble_eq_true (by kernel_rfl)) (Nat.le_of_ble_eq_true (by kernel_rfl)) K.out).mono ?_
  rintro e w99 hp
  have HC := hid (CodePost.of (code := spushCode) BB.out hp (by kernel_rfl))
  obtain ⟨v, rfl, ho⟩ := HC.out
  clear hp
  go_wp2
  go_ret2
  exact ⟨v, rfl, ho⟩
set_option maxHeartbeats 1000000 in
theorem stack_pop (N : Nat) (w : World) (h1 : 1 ≤ N) (h8 : N ≤ 8) : Calls Tryd.prog 62 #[.int .i64 (N : Int)] w fun e w' => CodePost2 w spopCode e w' := by
  go_enter Tryd.func62, Tryd.ntmps62
  go_wp2_with fail
  refine (stack_may N w h1 h8).mono ?_
  rintro e w' ⟨rfl, rfl⟩
  go_wp2_with fail
  refine (stack_begun_t w.heap.size none 0 w (Nat.le_refl _) (.inl rfl)).mono ?_
  rintro e w1 hp
  obtain ⟨g, rfl, k1, b1⟩ := hp
  have K := hid k1; have BB := hid b1
  clear k1 b1
  go_wp2_with fail
  refine (stack_take_pop w.heap.size g w1 BB.out.size K.out).mono ?_
  rintro e w2 ⟨rfl, k1, b1⟩
  have K := hid k1; have BB := hid (BB.out.trans b1)
  clear k1 b1
  go_wp2_with fail
  refine (asm_copy w.heap.size g ac_take_pop [118] [118, 97, 108, 117, 101] w2 BB.out.size (Nat.le_of_ble_eq_true (by kernel_rfl)) (Nat.le_of_ble_eq_true (by kernel_rfl)) (Nat.le_of_ble_eq_true (by kernel_rfl)) (Nat.le_of_ble_eq_true (by kernel_rfl)) K.out).mono ?_
  rintro e w3 hp
  obtain ⟨rfl, k1, b1, z1⟩ := hp
  have K := hid k1; have BB := hid (BB.out.trans b1)
  clear k1 b1 z1
  go_wp2_with fail
  refine (stack_give_pop w.heap.size g w3 BB.out.size K.out).mono ?_
  rintro e w4 ⟨rfl, k1, b1⟩
  have K := hid k1; have BB := hid (BB.out.trans b1)
  clear k1 b1
  go_wp2_with fail
  refine (asm_tell w.heap.size g ac_give_pop [[118]] w4.heap.size 1 (w4.alloc (.cells #[.string ⟨#[118]⟩] 9)) (Nat.le_trans BB.out.size (bnew (bnil _) _).size) (by decide) rfl (by decide) (Nat.le_of_ble_eq_true (by kernel_rfl)) (Nat.le_of_ble_eq_true (by kernel_rfl)) (K.out.below (bnew (bnil _) _)) (Blk.new w4 _ _)).mono ?_
  rintro e w5 hp
  obtain ⟨rfl, k1, b1, z1⟩ := hp
  have K := hid k1; have BB := hid ((bgo BB.out (bnew (bnil w4) (.cells #[.string ⟨#[118]⟩] 9))).trans b1)
  clear k1 b1 z1
  go_wp2_with fail
  refine (asm_done w.heap.size g (atell [[118]] ac_give_pop) w5 BB.out.size (Nat.le_of_ble_eq_true (by kernel_rfl)) K.out).mono ?_
  rintro e w6 hp
  obtain ⟨rfl, k1, b1, z1⟩ := hp
  have K := hid k1; have BB := hid (BB.out.trans b1)
  clear k1 b1 z1
  go_wp2_with fail
  refine (asm_at w.heap.size g (adone (atell [[118]] ac_give_pop)) [110, 111, 110, 101] w6 BB.out.size (Nat.le_of_ble_eq_true (by kernel_rfl)) (Nat.le_of_ble_eq_true (by kernel_rfl)) (Nat.le_of_ble_eq_true (by kernel_rfl)) K.out).mono ?_
  rintro e w7 hp
  obtain ⟨rfl, k1, b1, z1⟩ := hp
  have K := hid k1; have BB := hid (BB.out.trans b1)
  clear k1 b1 z1
  go_wp2_with fail
  refine (asm_set w.heap.size g (aat [110, 111, 110, 101] (adone (atell [[118]] ac_give_pop))) [118] (-1) w7 BB.out.size (Nat.le_of_ble_eq_true (by kernel_rfl)) (Nat.le_of_ble_eq_true (by kernel_rfl)) (Nat.le_of_ble_eq_true (by kernel_rfl)) K.out).mono ?_
  rintro e w8 hp
  obtain ⟨rfl, k1, b1, z1⟩ := hp
  have K := hid k1; have BB := hid (BB.out.trans b1)
  clear k1 b1 z1
  go_wp2_with fail
  refine (asm_tell w.heap.size g (aset [118] (-1) (aat [110, 111, 110, 101] (adone (atell [[118]] ac_give_pop)))) [[118]] w8.heap.size 1 (w8.alloc (.cells #[.string ⟨#[118]⟩] 9)) (Nat.le_trans BB.out.size (bnew (bnil _) _).size) (by decide) rfl (by decide) (Nat.le_of_ble_eq_true (by kernel_rfl)) (Nat.le_of_ble_eq_true (by kernel_rfl)) (K.out.below (bnew (bnil _) _)) (Blk.new w8 _ _)).mono ?_
  rintro e w9 hp
  obtain ⟨rfl, k1, b1, z1⟩ := hp
  have K := hid k1; have BB := hid ((bgo BB.out (bnew (bnil w8) (.cells #[.string ⟨#[118]⟩] 9))).trans b1)
  clear k1 b1 z1
  go_wp2_with fail
  refine (asm_ops w.heap.size g (atell [[118]] (aset [118] (-1) (aat [110, 111, 110, 101] (adone (atell [[118]] ac_give_pop))))) w9 BB.out.size (gotos_in (by kernel_rfl)) (Nat.le_of_ble_eq_true (by kernel_rfl)) (Nat.le_of_ble_eq_true (by kernel_rfl)) K.out).mono ?_
  rintro e w99 hp
  have HC := hid (CodePost.of (code := spopCode) BB.out hp (by kernel_rfl))
  obtain ⟨v, rfl, ho⟩ := HC.out
  clear hp
  go_wp2
  go_ret2
  exact ⟨v, rfl, ho⟩
theorem spush_sh : ∀ o ∈ spushCode, OpSh spushCode.length o := by
  intro o ho
  rw [show spushCode.length = 28 from rfl]
  simp only [spushCode, List.mem_cons, List.not_mem_nil, or_false] at ho
  repeat' (rcases ho with rfl | ho)
  all_goals first | exact ⟨by decide, by decide, by decide, by decide, by decide⟩ | (subst ho; exact ⟨by decide, by decide, by decide, by decide, by decide⟩)
theorem spop_sh : ∀ o ∈ spopCode, OpSh spopCode.length o := by
  intro o ho
  rw [show spopCode.length = 29 from rfl]
  simp only [spopCode, List.mem_cons, List.not_mem_nil, or_false] at ho
  repeat' (rcases ho with rfl | ho)
  all_goals first | exact ⟨by decide, by decide, by decide, by decide, by decide⟩ | (subst ho; exact ⟨by decide, by decide, by decide, by decide, by decide⟩)
/-- the words while they are made: n: the next one that gets its successor -/
def swl (N n : Nat) : List Int := (List.range (2 * N + 2)).map fun i => if i = 1 then 1 else if i % 2 = 1 ∧ 3 ≤ i ∧ i < 2 * n + 1 then (((i + 1) / 2 : Nat) : Int) else 0
theorem swl_len (N n : Nat) : (swl N n).length = 2 * N + 2 := by unfold swl; simp
theorem swl_set {N n : Nat} (h1 : 1 ≤ n) (hn : n < N) : (swl N n).set (2 * n + 1) ((n : Int) + 1) = swl N (n + 1) := by
  refine List.ext_getElem? fun i => ?_
  rw [List.getElem?_set, swl_len]
  unfold swl
  rw [List.getElem?_map, List.getElem?_map]
  by_cases hi : i < 2 * N + 2
  · rw [List.getElem?_range hi]
    by_cases e : 2 * n + 1 = i
    · subst e
      rw [if_pos rfl, if_pos hi]
      simp only [Option.map_some]
      rw [if_neg (by omega), if_pos (by omega)]
      congr 1; omega
    · rw [if_neg e]
      simp only [Option.map_some]
      congr 1
      by_cases h2 : i = 1
      · rw [if_pos h2, if_pos h2]
      · rw [if_neg h2, if_neg h2]
        by_cases h3 : i % 2 = 1 ∧ 3 ≤ i ∧ i < 2 * n + 1
        · rw [if_pos h3, if_pos (by omega)]
        · rw [if_neg h3, if_neg (by omega)]
  · rw [List.getElem?_eq_none (by simpa using hi)]
    simp only [Option.map_none]
    rw [if_neg (by omega)]
theorem swl_end {N : Nat} (h : 1 ≤ N ∧ N ≤ 8) : swl N N = swords N := by
  rcases (show N = 1 ∨ N = 2 ∨ N = 3 ∨ N = 4 ∨ N = 5 ∨ N = 6 ∨ N = 7 ∨ N = 8 by omega) with rfl | rfl | rfl | rfl | rfl | rfl | rfl | rfl <;> decide
theorem swl_0 {N : Nat} (h : 1 ≤ N ∧ N ≤ 8) : (List.replicate (2 * N + 2) (0 : Int)).set 1 1 = swl N 1 := by
  rcases (show N = 1 ∨ N = 2 ∨ N = 3 ∨ N = 4 ∨ N = 5 ∨ N = 6 ∨ N = 7 ∨ N = 8 by omega) with rfl | rfl | rfl | rfl | rfl | rfl | rfl | rfl <;> decide
theorem swords_len {N : Nat} (h : 1 ≤ N ∧ N ≤ 8) : (swords N).length = 2 * N + 2 := by rw [← swl_end h, swl_len]
theorem mk_intsS (w : World) (n : Nat) (hn : n ≤ 1000) : ∃ cs : Array Value, cs.toList = (List.replicate n (0 : Int)).flatMap gI ∧ (Instr.makeSlice 24 (.int .i64 (n : Int)) (.int .i64 (n : Int))).run Tryd.prog w = .ok (.slice (some ⟨w.heap.size, 0, none⟩) n n) (w.alloc (.cells cs 3)) := by
  have h := run_make_row' (P := Tryd.prog) 24 3 (.int .i64 0) 8 Tryd.underlying24 (by kernel_rfl) rfl .i64 .i64 n (by omega) (by omega) w
  refine ⟨_, ?_, h⟩
  rw [Go.toList_madeCells_one]
  clear h hn
  induction n with
  | zero => rfl
  | succ n ih => rw [List.replicate_succ, List.replicate_succ, List.flatMap_cons, ← ih]; rfl
set_option maxHeartbeats 2000000 in
theorem stack_words (N : Nat) (w : World) (h1 : 1 ≤ N) (h8 : N ≤ 8) : Calls Tryd.prog 60 #[.int .i64 (N : Int)] w fun e w' => ∃ v, e = .returned (.tuple #[v, .int .i64 0]) ∧ Ow w w' 3 1 gI v (swords N) := by
  obtain ⟨cs, hcs, hmk⟩ := mk_intsS w (2 * N + 2) (by omega)
  rw [show ((2 * N + 2 : Nat) : Int) = 2 + 2 * (N : Int) by omega] at hmk
  have HCS := hid hcs
  clear hcs
  obtain ⟨B, hB⟩ : ∃ B, w.heap.size = B := ⟨_, rfl⟩
  have hl : cs.size = 2 * N + 2 := by rw [← Array.length_toList, HCS.out, flatMap_len gI 1 (fun _ => rfl)]; simp
  have K0 := hid (blkN w 3 cs B hB)
  have O0 := hid (show Ow w (w.alloc (.cells cs 3)) 3 1 gI (.slice (some ⟨B, 0, none⟩) (2 * N + 2) (2 * N + 2)) (List.replicate (2 * N + 2) 0) from
    ⟨⟨by simp, .inr ⟨B, 2 * N + 2, cs, by rw [List.length_replicate], by omega, K0.out, by simp, by unfold maxLen; omega, by rw [hl]; simp, by rw [HCS.out, List.take_of_length_le]; rw [flatMap_len gI 1 (fun _ => rfl)]; simp⟩⟩, bnew (bnil w) _⟩)
  have c1 : ∃ u, (w.alloc (.cells cs 3)).cell? ⟨B, 1, none⟩ = some u := by rw [K0.out.cell 1]; exact ⟨cs[1], Array.getElem?_eq_getElem (by omega)⟩
  obtain ⟨u1, c1⟩ := c1
  have f1 : (w.alloc (.cells cs 3)).frozen? ⟨B, 1, none⟩ = false := K0.out.frozen 1
  rw [hB] at hmk
  have ia : (1 : Int) < 2 + 2 * (N : Int) := by omega
  go_enter Tryd.func60, Tryd.ntmps60
  go_wp2_with fail
  refine (stack_may N w h1 h8).mono ?_
  rintro e w' ⟨rfl, rfl⟩
  go_wp2_with fail
  have O1 := hid (show Ow w (w.alloc (.cells (cs.setIfInBounds 1 (.int .i64 1)) 3)) 3 1 gI (.slice (some ⟨B, 0, none⟩) (2 * N + 2) (2 * N + 2)) (swl N 1) from
    ⟨⟨by rw [flatMap_len gI 1 (fun _ => rfl)], .inr ⟨B, 2 * N + 2, _, by rw [swl_len], by omega, blkN w 3 _ B hB, by rw [swl_len]; exact Nat.le_refl _, by unfold maxLen; omega, by simpa using hl, by
      have hf := flatMap_set (fun x : Int => Value.int .i64 x) (List.replicate (2 * N + 2) (0 : Int)) 1 1
      rw [swl_0 ⟨h1, h8⟩] at hf
      rw [Array.toList_setIfInBounds, HCS.out, swl_len, List.take_of_length_le (by rw [List.length_set, flatMap_len gI 1 (fun _ => rfl)]; simp)]
      exact hf.symm⟩⟩, bnew (bnil w) _⟩)
  generalize World.alloc w _ = w1 at *
  go_loopw [5] (fun v wr => ∃ n : Nat, 1 ≤ n ∧ n ≤ N ∧ v = .int .i64 n ∧ Hid (Ow w wr 3 1 gI (.slice (some ⟨B, 0, none⟩) (2 * N + 2) (2 * N + 2)) (swl N n))) (fun v _ => N - (intOf v).toNat)
  case atStart => exact ⟨1, by omega, h1, rfl, O1⟩
  case round =>
    obtain ⟨n, hn1, hnN, rfl, HO⟩ := hrel
    by_cases hlt : n < N
    · have i1 : (n : Int) < (N : Int) := by omega
      have i2 : 2 * (n : Int) + 1 < 2 + 2 * (N : Int) := by omega
      obtain ⟨b', cur, hA, _, hb, hk, hs, hc, ht⟩ := HO.out.row (by rw [swl_len]; omega)
      injection hA with hA; injection hA with hA; subst hA
      have f2 : wr.frozen? ⟨B, 2 * n + 1, none⟩ = false := hk.frozen _
      have c2 : ∃ u, wr.cell? ⟨B, 2 * n + 1, none⟩ = some u := by rw [hk.cell]; exact ⟨cur[2 * n + 1], Array.getElem?_eq_getElem (by omega)⟩
      obtain ⟨u2, c2⟩ := c2
      clear hk
      go_wp2_with fail
      have O2 := hid (HO.out.set (f := fun x : Int => .int .i64 x) (i := 2 * n + 1) (by rw [swl_len]; omega) ((n : Int) + 1))
      rw [swl_set hn1 hlt] at O2
      go_roundw
      case rel => exact ⟨n + 1, by omega, by omega, by go_num, O2⟩
      case measure => simp [intOf]; omega
    · obtain rfl : n = N := by omega
      have i1 : ¬ (n : Int) < (n : Int) := by omega
      go_wp2_with fail
      go_ret2
      exact ⟨_, rfl, by rw [← swl_end ⟨h1, h8⟩]; exact HO.out⟩
end
end Go.Proofs.YtbcjgnigdddlkaaDoor
