/-
  Codes of package ring: their walks. (Merged by mergeR.py.)
-/
import Derived.Test.YtiinnkdhccgelaaDoorCodes1
import Derived.Test.YtiinnkdhccgelaaDoorAsm4
import Derived.Test.YtiinnkdhccgelaaDoorCodesQ
import Derived.Test.YtiinnkdhccgelaaDoorRAll
namespace Go.Proofs.YtiinnkdhccgelaaDoor
open Go.RowKit Go.Maps
set_option linter.unusedVariables false

theorem ring_may (N : Nat) (w : World) (h1 : 1 ≤ N) (h8 : N ≤ 8) : Calls Tryd.prog 76 #[.int .i64 (N : Int)] w fun e w' => e = .returned (.bool true) ∧ w = w' := by
  have i1 : (1 : Int) ≤ (N : Int) := by omega
  have i8 : (N : Int) ≤ 8 := by omega
  go_enter Tryd.func76, Tryd.ntmps76
  go_wp2
  go_ret
  exact ⟨rfl, rfl⟩

set_option maxHeartbeats 1000000 in
theorem ring_ends_p (B N : Nat) (A : Option Addr) (c : Nat) (w : World) (hB : B ≤ w.heap.size) (hA : Names w A [[118]]) : Calls Tryd.prog 77 #[.int .i64 (N : Int), .slice A 1 c] w fun e w' => ∃ g, e = .returned (.pointer (some ⟨g, 0, none⟩)) ∧ ACat B w' g (aword 13 [116, 97, 107, 101, 110] [98, 97, 115, 101] 1 (aword 13 [112, 117, 116] [98, 97, 115, 101] 0 (aset [97, 108, 108] (N : Int) (aset [111, 110, 101] 1 (aregs [[118]] anew))))) ∧ Below B w w' := by
  go_enter Tryd.func77, Tryd.ntmps77
  go_wp2_with fail
  refine (asm_new B [[118]] A 1 c w hB (by decide) rfl (by decide) hA).mono ?_
  rintro e w1 hp
  obtain ⟨g, rfl, k1, b1, z1⟩ := hp
  have K := hid k1; have BB := hid b1
  clear k1 b1 z1
  go_wp2_with fail
  refine (asm_set B g (aregs [[118]] anew) [111, 110, 101] 1 w1 (Nat.le_trans hB BB.out.size) (Nat.le_of_ble_eq_true (by kernel_rfl)) (Nat.le_of_ble_eq_true (by kernel_rfl)) (Nat.le_of_ble_eq_true (by kernel_rfl)) K.out).mono ?_
  rintro e w2 hp
  obtain ⟨rfl, k1, b1, z1⟩ := hp
  have K := hid k1; have BB := hid (BB.out.trans b1)
  clear k1 b1 z1
  go_wp2_with fail
  refine (asm_set B g (aset [111, 110, 101] 1 (aregs [[118]] anew)) [97, 108, 108] (N : Int) w2 (Nat.le_trans hB BB.out.size) (Nat.le_of_ble_eq_true (by kernel_rfl)) (Nat.le_of_ble_eq_true (by kernel_rfl)) (Nat.le_of_ble_eq_true (by kernel_rfl)) K.out).mono ?_
  rintro e w3 hp
  obtain ⟨rfl, k1, b1, z1⟩ := hp
  have K := hid k1; have BB := hid (BB.out.trans b1)
  clear k1 b1 z1
  go_wp2_with fail
  refine (asm_word B g (aset [97, 108, 108] (N : Int) (aset [111, 110, 101] 1 (aregs [[118]] anew))) 13 [112, 117, 116] [98, 97, 115, 101] 0 w3 (Nat.le_trans hB BB.out.size) (Nat.le_of_ble_eq_true (by kernel_rfl)) (Nat.le_of_ble_eq_true (by kernel_rfl)) (Nat.le_of_ble_eq_true (by kernel_rfl)) (Nat.le_of_ble_eq_true (by kernel_rfl)) K.out).mono ?_
  rintro e w4 hp
  obtain ⟨rfl, k1, b1, z1⟩ := hp
  have K := hid k1; have BB := hid (BB.out.trans b1)
  clear k1 b1 z1
  go_wp2_with fail
  refine (asm_word B g (aword 13 [112, 117, 116] [98, 97, 115, 101] 0 (aset [97, 108, 108] (N : Int) (aset [111, 110, 101] 1 (aregs [[118]] anew)))) 13 [116, 97, 107, 101, 110] [98, 97, 115, 101] 1 w4 (Nat.le_trans hB BB.out.size) (Nat.le_of_ble_eq_true (by kernel_rfl)) (Nat.le_of_ble_eq_true (by kernel_rfl)) (Nat.le_of_ble_eq_true (by kernel_rfl)) (Nat.le_of_ble_eq_true (by kernel_rfl)) K.out).mono ?_
  rintro e w5 hp
  obtain ⟨rfl, k1, b1, z1⟩ := hp
  have K := hid k1; have BB := hid (BB.out.trans b1)
  clear k1 b1 z1
  go_wp2
  go_ret
  exact ⟨g, rfl, K.out, BB.out⟩
set_option maxHeartbeats 1000000 in
theorem ring_ends_t (B N : Nat) (A : Option Addr) (c : Nat) (w : World) (hB : B ≤ w.heap.size) (hA : Names w A []) : Calls Tryd.prog 77 #[.int .i64 (N : Int), .slice A 0 c] w fun e w' => ∃ g, e = .returned (.pointer (some ⟨g, 0, none⟩)) ∧ ACat B w' g (aword 13 [116, 97, 107, 101, 110] [98, 97, 115, 101] 1 (aword 13 [112, 117, 116] [98, 97, 115, 101] 0 (aset [97, 108, 108] (N : Int) (aset [111, 110, 101] 1 (aregs [] anew))))) ∧ Below B w w' := by
  go_enter Tryd.func77, Tryd.ntmps77
  go_wp2_with fail
  refine (asm_new B [] A 0 c w hB (by decide) rfl (by decide) hA).mono ?_
  rintro e w1 hp
  obtain ⟨g, rfl, k1, b1, z1⟩ := hp
  have K := hid k1; have BB := hid b1
  clear k1 b1 z1
  go_wp2_with fail
  refine (asm_set B g (aregs [] anew) [111, 110, 101] 1 w1 (Nat.le_trans hB BB.out.size) (Nat.le_of_ble_eq_true (by kernel_rfl)) (Nat.le_of_ble_eq_true (by kernel_rfl)) (Nat.le_of_ble_eq_true (by kernel_rfl)) K.out).mono ?_
  rintro e w2 hp
  obtain ⟨rfl, k1, b1, z1⟩ := hp
  have K := hid k1; have BB := hid (BB.out.trans b1)
  clear k1 b1 z1
  go_wp2_with fail
  refine (asm_set B g (aset [111, 110, 101] 1 (aregs [] anew)) [97, 108, 108] (N : Int) w2 (Nat.le_trans hB BB.out.size) (Nat.le_of_ble_eq_true (by kernel_rfl)) (Nat.le_of_ble_eq_true (by kernel_rfl)) (Nat.le_of_ble_eq_true (by kernel_rfl)) K.out).mono ?_
  rintro e w3 hp
  obtain ⟨rfl, k1, b1, z1⟩ := hp
  have K := hid k1; have BB := hid (BB.out.trans b1)
  clear k1 b1 z1
  go_wp2_with fail
  refine (asm_word B g (aset [97, 108, 108] (N : Int) (aset [111, 110, 101] 1 (aregs [] anew))) 13 [112, 117, 116] [98, 97, 115, 101] 0 w3 (Nat.le_trans hB BB.out.size) (Nat.le_of_ble_eq_true (by kernel_rfl)) (Nat.le_of_ble_eq_true (by kernel_rfl)) (Nat.le_of_ble_eq_true (by kernel_rfl)) (Nat.le_of_ble_eq_true (by kernel_rfl)) K.out).mono ?_
  rintro e w4 hp
  obtain ⟨rfl, k1, b1, z1⟩ := hp
  have K := hid k1; have BB := hid (BB.out.trans b1)
  clear k1 b1 z1
  go_wp2_with fail
  refine (asm_word B g (aword 13 [112, 117, 116] [98, 97, 115, 101] 0 (aset [97, 108, 108] (N : Int) (aset [111, 110, 101] 1 (aregs [] anew)))) 13 [116, 97, 107, 101, 110] [98, 97, 115, 101] 1 w4 (Nat.le_trans hB BB.out.size) (Nat.le_of_ble_eq_true (by kernel_rfl)) (Nat.le_of_ble_eq_true (by kernel_rfl)) (Nat.le_of_ble_eq_true (by kernel_rfl)) (Nat.le_of_ble_eq_true (by kernel_rfl)) K.out).mono ?_
  rintro e w5 hp
  obtain ⟨rfl, k1, b1, z1⟩ := hp
  have K := hid k1; have BB := hid (BB.out.trans b1)
  clear k1 b1 z1
  go_wp2
  go_ret
  exact ⟨g, rfl, K.out, BB.out⟩
set_option maxHeartbeats 1000000 in
theorem ring_put (N : Nat) (w : World) (h1 : 1 ≤ N) (h8 : N ≤ 8) : Calls Tryd.prog 54 #[.int .i64 (N : Int)] w fun e w' => CodePost2 w (rputCode N) e w' := by
  go_enter Tryd.func54, Tryd.ntmps54
  go_wp2_with fail
  refine (ring_may N w h1 h8).mono ?_
  rintro e w' ⟨rfl, rfl⟩
  go_wp2_with fail
  refine (ring_ends_p w.heap.size N (some ⟨w.heap.size, 0, none⟩) 1 (w.alloc (.cells #[.string ⟨#[118]⟩] 9)) (bnew (bnil w) _).size (.inr ⟨_, rfl, Blk.new w _ _⟩)).mono ?_
  rintro e w1 hp
  obtain ⟨g, rfl, k1, b1⟩ := hp
  have K := hid k1; have BB := hid ((bnew (bnil w) (.cells #[.string ⟨#[118]⟩] 9)).trans b1)
  clear k1 b1
  go_wp2_with fail
  refine (asm_do w.heap.size g (aword 13 [116, 97, 107, 101, 110] [98, 97, 115, 101] 1 (aword 13 [112, 117, 116] [98, 97, 115, 101] 0 (aset [97, 108, 108] (N : Int) (aset [111, 110, 101] 1 (aregs [[118]] anew))))) 4 [110] [112, 117, 116] [116, 97, 107, 101, 110] w1 BB.out.size (Nat.le_of_ble_eq_true (by kernel_rfl)) (Nat.le_of_ble_eq_true (by kernel_rfl)) (Nat.le_of_ble_eq_true (by kernel_rfl)) (Nat.le_of_ble_eq_true (by kernel_rfl)) (Nat.le_of_ble_eq_true (by kernel_rfl)) K.out).mono ?_
  rintro e w2 hp
  obtain ⟨rfl, k1, b1, z1⟩ := hp
  have K := hid k1; have BB := hid (BB.out.trans b1)
  clear k1 b1 z1
  go_wp2_with fail
  refine (asm_do w.heap.size g (ado 4 [110] [112, 117, 116] [116, 97, 107, 101, 110] (aword 13 [116, 97, 107, 101, 110] [98, 97, 115, 101] 1 (aword 13 [112, 117, 116] [98, 97, 115, 101] 0 (aset [97, 108, 108] (N : Int) (aset [111, 110, 101] 1 (aregs [[118]] anew)))))) 8 [102, 117, 108, 108] [110] [97, 108, 108] w2 BB.out.size (Nat.le_of_ble_eq_true (by kernel_rfl)) (Nat.le_of_ble_eq_true (by kernel_rfl)) (Nat.le_of_ble_eq_true (by kernel_rfl)) (Nat.le_of_ble_eq_true (by kernel_rfl)) (Nat.le_of_ble_eq_true (by kernel_rfl)) K.out).mono ?_
  rintro e w3 hp
  obtain ⟨rfl, k1, b1, z1⟩ := hp
  have K := hid k1; have BB := hid (BB.out.trans b1)
  clear k1 b1 z1
  go_wp2_with fail
  refine (asm_if w.heap.size g (ado 8 [102, 117, 108, 108] [110] [97, 108, 108] (ado 4 [110] [112, 117, 116] [116, 97, 107, 101, 110] (aword 13 [116, 97, 107, 101, 110] [98, 97, 115, 101] 1 (aword 13 [112, 117, 116] [98, 97, 115, 101] 0 (aset [97, 108, 108] (N : Int) (aset [111, 110, 101] 1 (aregs [[118]] anew))))))) 11 [102, 117, 108, 108] [110, 111] w3 BB.out.size (Nat.le_of_ble_eq_true (by kernel_rfl)) (Nat.le_of_ble_eq_true (by kernel_rfl)) (Nat.le_of_ble_eq_true (by kernel_rfl)) (Nat.le_of_ble_eq_true (by kernel_rfl)) K.out).mono ?_
  rintro e w4 hp
  obtain ⟨rfl, k1, b1, z1⟩ := hp
  have K := hid k1; have BB := hid (BB.out.trans b1)
  clear k1 b1 z1
  go_wp2_with fail
  refine (asm_do w.heap.size g (aif 11 [102, 117, 108, 108] [110, 111] (ado 8 [102, 117, 108, 108] [110] [97, 108, 108] (ado 4 [110] [112, 117, 116] [116, 97, 107, 101, 110] (aword 13 [116, 97, 107, 101, 110] [98, 97, 115, 101] 1 (aword 13 [112, 117, 116] [98, 97, 115, 101] 0 (aset [97, 108, 108] (N : Int) (aset [111, 110, 101] 1 (aregs [[118]] anew)))))))) 7 [97, 116] [112, 117, 116] [97, 108, 108] w4 BB.out.size (Nat.le_of_ble_eq_true (by kernel_rfl)) (Nat.le_of_ble_eq_true (by kernel_rfl)) (Nat.le_of_ble_eq_true (by kernel_rfl)) (Nat.le_of_ble_eq_true (by kernel_rfl)) (Nat.le_of_ble_eq_true (by kernel_rfl)) K.out).mono ?_
  rintro e w5 hp
  obtain ⟨rfl, k1, b1, z1⟩ := hp
  have K := hid k1; have BB := hid (BB.out.trans b1)
  clear k1 b1 z1
  go_wp2_with fail
  refine (asm_word w.heap.size g (ado 7 [97, 116] [112, 117, 116] [97, 108, 108] (aif 11 [102, 117, 108, 108] [110, 111] (ado 8 [102, 117, 108, 108] [110] [97, 108, 108] (ado 4 [110] [112, 117, 116] [116, 97, 107, 101, 110] (aword 13 [116, 97, 107, 101, 110] [98, 97, 115, 101] 1 (aword 13 [112, 117, 116] [98, 97, 115, 101] 0 (aset [97, 108, 108] (N : Int) (aset [111, 110, 101] 1 (aregs [[118]] anew))))))))) 14 [118] [97, 116] 2 w5 BB.out.size (Nat.le_of_ble_eq_true (by kernel_rfl)) (Nat.le_of_ble_eq_true (by kernel_rfl)) (Nat.le_of_ble_eq_true (by kernel_rfl)) (Nat.le_of_ble_eq_true (by kernel_rfl)) K.out).mono ?_
  rintro e w6 hp
  obtain ⟨rfl, k1, b1, z1⟩ := hp
  have K := hid k1; have BB := hid (BB.out.trans b1)
  clear k1 b1 z1
  go_wp2_with fail
  refine (asm_do w.heap.size g (aword 14 [118] [97, 116] 2 (ado 7 [97, 116] [112, 117, 116] [97, 108, 108] (aif 11 [102, 117, 108, 108] [110, 111] (ado 8 [102, 117, 108, 108] [110] [97, 108, 108] (ado 4 [110] [112, 117, 116] [116, 97, 107, 101, 110] (aword 13 [116, 97, 107, 101, 110] [98, 97, 115, 101] 1 (aword 13 [112, 117, 116] [98, 97, 115, 101] 0 (aset [97, 108, 108] (N : Int) (aset [111, 110, 101] 1 (aregs [[118]] anew)))))))))) 3 [112, 117, 116] [112, 117, 116] [111, 110, 101] w6 BB.out.size (Nat.le_of_ble_eq_true (by kernel_rfl)) (Nat.le_of_ble_eq_true (by kernel_rfl)) (Nat.le_of_ble_eq_true (by kernel_rfl)) (Nat.le_of_ble_eq_true (by kernel_rfl)) (Nat.le_of_ble_eq_true (by kernel_rfl)) K.out).mono ?_
  rintro e w7 hp
  obtain ⟨rfl, k1, b1, z1⟩ := hp
  have K := hid k1; have BB := hid (BB.out.trans b1)
  clear k1 b1 z1
  go_wp2_with fail
  refine (asm_word w.heap.size g (ado 3 [112, 117, 116] [112, 117, 116] [111, 110, 101] (aword 14 [118] [97, 116] 2 (ado 7 [97, 116] [112, 117, 116] [97, 108, 108] (aif 11 [102, 117, 108, 108] [110, 111] (ado 8 [102, 117, 108, 108] [110] [97, 108, 108] (ado 4 [110] [112, 117, 116] [116, 97, 107, 101, 110] (aword 13 [116, 97, 107, 101, 110] [98, 97, 115, 101] 1 (aword 13 [112, 117, 116] [98, 97, 115, 101] 0 (aset [97, 108, 108] (N : Int) (aset [111, 110, 101] 1 (aregs [[118]] anew))))))))))) 14 [112, 117, 116] [98, 97, 115, 101] 0 w7 BB.out.size (Nat.le_of_ble_eq_true (by kernel_rfl)) (Nat.le_of_ble_eq_true (by kernel_rfl)) (Nat.le_of_ble_eq_true (by kernel_rfl)) (Nat.le_of_ble_eq_true (by kernel_rfl)) K.out).mono ?_
  rintro e w8 hp
  obtain ⟨rfl, k1, b1, z1⟩ := hp
  have K := hid k1; have BB := hid (BB.out.trans b1)
  clear k1 b1 z1
  go_wp2_with fail
  refine (asm_tell w.heap.size g (aword 14 [112, 117, 116] [98, 97, 115, 101] 0 (ado 3 [112, 117, 116] [112, 117, 116] [111, 110, 101] (aword 14 [118] [97, 116] 2 (ado 7 [97, 116] [112, 117, 116] [97, 108, 108] (aif 11 [102, 117, 108, 108] [110, 111] (ado 8 [102, 117, 108, 108] [110] [97, 108, 108] (ado 4 [110] [112, 117, 116] [116, 97, 107, 101, 110] (aword 13 [116, 97, 107, 101, 110] [98, 97, 115, 101] 1 (aword 13 [112, 117, 116] [98, 97, 115, 101] 0 (aset [97, 108, 108] (N : Int) (aset [111, 110, 101] 1 (aregs [[118]] anew)))))))))))) [[111, 110, 101]] w8.heap.size 1 (w8.alloc (.cells #[.string ⟨#[111, 110, 101]⟩] 9)) (Nat.le_trans BB.out.size (bnew (bnil _) _).size) (by decide) rfl (by decide) (Nat.le_of_ble_eq_true (by kernel_rfl)) (Nat.le_of_ble_eq_true (by kernel_rfl)) (K.out.below (bnew (bnil _) _)) (Blk.new w8 _ _)).mono ?_
  rintro e w9 hp
  obtain ⟨rfl, k1, b1, z1⟩ := hp
  have K := hid k1; have BB := hid ((bgo BB.out (bnew (bnil w8) (.cells #[.string ⟨#[111, 110, 101]⟩] 9))).trans b1)
  clear k1 b1 z1
  go_wp2_with fail
  refine (asm_done w.heap.size g (atell [[111, 110, 101]] (aword 14 [112, 117, 116] [98, 97, 115, 101] 0 (ado 3 [112, 117, 116] [112, 117, 116] [111, 110, 101] (aword 14 [118] [97, 116] 2 (ado 7 [97, 116] [112, 117, 116] [97, 108, 108] (aif 11 [102, 117, 108, 108] [110, 111] (ado 8 [102, 117, 108, 108] [110] [97, 108, 108] (ado 4 [110] [112, 117, 116] [116, 97, 107, 101, 110] (aword 13 [116, 97, 107, 101, 110] [98, 97, 115, 101] 1 (aword 13 [112, 117, 116] [98, 97, 115, 101] 0 (aset [97, 108, 108] (N : Int) (aset [111, 110, 101] 1 (aregs [[118]] anew))))))))))))) w9 BB.out.size (Nat.le_of_ble_eq_true (by kernel_rfl)) K.out).mono ?_
  rintro e w10 hp
  obtain ⟨rfl, k1, b1, z1⟩ := hp
  have K := hid k1; have BB := hid (BB.out.trans b1)
  clear k1 b1 z1
  go_wp2_with fail
  refine (asm_at w.heap.size g (adone (atell [[111, 110, 101]] (aword 14 [112, 117, 116] [98, 97, 115, 101] 0 (ado 3 [112, 117, 116] [112, 117, 116] [111, 110, 101] (aword 14 [118] [97, 116] 2 (ado 7 [97, 116] [112, 117, 116] [97, 108, 108] (aif 11 [102, 117, 108, 108] [110, 111] (ado 8 [102, 117, 108, 108] [110] [97, 108, 108] (ado 4 [110] [112, 117, 116] [116, 97, 107, 101, 110] (aword 13 [116, 97, 107, 101, 110] [98, 97, 115, 101] 1 (aword 13 [112, 117, 116] [98, 97, 115, 101] 0 (aset [97, 108, 108] (N : Int) (aset [111, 110, 101] 1 (aregs [[118]] anew)))))))))))))) [110, 111] w10 BB.out.size (Nat.le_of_ble_eq_true (by kernel_rfl)) (Nat.le_of_ble_eq_true (by kernel_rfl)) (Nat.le_of_ble_eq_true (by kernel_rfl)) K.out).mono ?_
  rintro e w11 hp
  obtain ⟨rfl, k1, b1, z1⟩ := hp
  have K := hid k1; have BB := hid (BB.out.trans b1)
  clear k1 b1 z1
  go_wp2_with fail
  refine (asm_tell w.heap.size g (aat [110, 111] (adone (atell [[111, 110, 101]] (aword 14 [112, 117, 116] [98, 97, 115, 101] 0 (ado 3 [112, 117, 116] [112, 117, 116] [111, 110, 101] (aword 14 [118] [97, 116] 2 (ado 7 [97, 116] [112, 117, 116] [97, 108, 108] (aif 11 [102, 117, 108, 108] [110, 111] (ado 8 [102, 117, 108, 108] [110] [97, 108, 108] (ado 4 [110] [112, 117, 116] [116, 97, 107, 101, 110] (aword 13 [116, 97, 107, 101, 110] [98, 97, 115, 101] 1 (aword 13 [112, 117, 116] [98, 97, 115, 101] 0 (aset [97, 108, 108] (N : Int) (aset [111, 110, 101] 1 (aregs [[118]] anew))))))))))))))) [[98, 97, 115, 101]] w11.heap.size 1 (w11.alloc (.cells #[.string ⟨#[98, 97, 115, 101]⟩] 9)) (Nat.le_trans BB.out.size (bnew (bnil _) _).size) (by decide) rfl (by decide) (Nat.le_of_ble_eq_true (by kernel_rfl)) (Nat.le_of_ble_eq_true (by kernel_rfl)) (K.out.below (bnew (bnil _) _)) (Blk.new w11 _ _)).mono ?_
  rintro e w12 hp
  obtain ⟨rfl, k1, b1, z1⟩ := hp
  have K := hid k1; have BB := hid ((bgo BB.out (bnew (bnil w11) (.cells #[.string ⟨#[98, 97, 115, 101]⟩] 9))).trans b1)
  clear k1 b1 z1
  go_wp2_with fail
  refine (asm_ops w.heap.size g (atell [[98, 97, 115, 101]] (aat [110, 111] (adone (atell [[111, 110, 101]] (aword 14 [112, 117, 116] [98, 97, 115, 101] 0 (ado 3 [112, 117, 116] [112, 117, 116] [111, 110, 101] (aword 14 [118] [97, 116] 2 (ado 7 [97, 116] [112, 117, 116] [97, 108, 108] (aif 11 [102, 117, 108, 108] [110, 111] (ado 8 [102, 117, 108, 108] [110] [97, 108, 108] (ado 4 [110] [112, 117, 116] [116, 97, 107, 101, 110] (aword 13 [116, 97, 107, 101, 110] [98, 97, 115, 101] 1 (aword 13 [112, 117, 116] [98, 97, 115, 101] 0 (aset [97, 108, 108] (N : Int) (aset [111, 110, 101] 1 (aregs [[118]] anew)))))))))))))))) w12 BB.out.size (gotos_in (by kernel_rfl)) (Nat.le_of_ble_eq_true (by kernel_rfl)) (Nat.le_of_ble_eq_true (by kernel_rfl)) K.out).mono ?_
  rintro e w99 hp
  have HC := hid (CodePost.of (code := rputCode N) BB.out hp (by kernel_rfl))
  obtain ⟨v, rfl, ho⟩ := HC.out
  clear hp
  go_wp2
  go_ret2
  exact ⟨v, rfl, ho⟩
set_option maxHeartbeats 1000000 in
theorem ring_take (N : Nat) (w : World) (h1 : 1 ≤ N) (h8 : N ≤ 8) : Calls Tryd.prog 55 #[.int .i64 (N : Int)] w fun e w' => CodePost2 w (rtakeCode N) e w' := by
  go_enter Tryd.func55, Tryd.ntmps55
  go_wp2_with fail
  refine (ring_may N w h1 h8).mono ?_
  rintro e w' ⟨rfl, rfl⟩
  go_wp2_with fail
  refine (ring_ends_t w.heap.size N none 0 w (Nat.le_refl _) (.inl rfl)).mono ?_
  rintro e w1 hp
  obtain ⟨g, rfl, k1, b1⟩ := hp
  have K := hid k1; have BB := hid b1
  clear k1 b1
  go_wp2_with fail
  refine (asm_do w.heap.size g (aword 13 [116, 97, 107, 101, 110] [98, 97, 115, 101] 1 (aword 13 [112, 117, 116] [98, 97, 115, 101] 0 (aset [97, 108, 108] (N : Int) (aset [111, 110, 101] 1 (aregs [] anew))))) 8 [110, 111, 110, 101] [112, 117, 116] [116, 97, 107, 101, 110] w1 BB.out.size (Nat.le_of_ble_eq_true (by kernel_rfl)) (Nat.le_of_ble_eq_true (by kernel_rfl)) (Nat.le_of_ble_eq_true (by kernel_rfl)) (Nat.le_of_ble_eq_true (by kernel_rfl)) (Nat.le_of_ble_eq_true (by kernel_rfl)) K.out).mono ?_
  rintro e w2 hp
  obtain ⟨rfl, k1, b1, z1⟩ := hp
  have K := hid k1; have BB := hid (BB.out.trans b1)
  clear k1 b1 z1
  go_wp2_with fail
  refine (asm_if w.heap.size g (ado 8 [110, 111, 110, 101] [112, 117, 116] [116, 97, 107, 101, 110] (aword 13 [116, 97, 107, 101, 110] [98, 97, 115, 101] 1 (aword 13 [112, 117, 116] [98, 97, 115, 101] 0 (aset [97, 108, 108] (N : Int) (aset [111, 110, 101] 1 (aregs [] anew)))))) 11 [110, 111, 110, 101] [110, 111] w2 BB.out.size (Nat.le_of_ble_eq_true (by kernel_rfl)) (Nat.le_of_ble_eq_true (by kernel_rfl)) (Nat.le_of_ble_eq_true (by kernel_rfl)) (Nat.le_of_ble_eq_true (by kernel_rfl)) K.out).mono ?_
  rintro e w3 hp
  obtain ⟨rfl, k1, b1, z1⟩ := hp
  have K := hid k1; have BB := hid (BB.out.trans b1)
  clear k1 b1 z1
  go_wp2_with fail
  refine (asm_do w.heap.size g (aif 11 [110, 111, 110, 101] [110, 111] (ado 8 [110, 111, 110, 101] [112, 117, 116] [116, 97, 107, 101, 110] (aword 13 [116, 97, 107, 101, 110] [98, 97, 115, 101] 1 (aword 13 [112, 117, 116] [98, 97, 115, 101] 0 (aset [97, 108, 108] (N : Int) (aset [111, 110, 101] 1 (aregs [] anew))))))) 7 [97, 116] [116, 97, 107, 101, 110] [97, 108, 108] w3 BB.out.size (Nat.le_of_ble_eq_true (by kernel_rfl)) (Nat.le_of_ble_eq_true (by kernel_rfl)) (Nat.le_of_ble_eq_true (by kernel_rfl)) (Nat.le_of_ble_eq_true (by kernel_rfl)) (Nat.le_of_ble_eq_true (by kernel_rfl)) K.out).mono ?_
  rintro e w4 hp
  obtain ⟨rfl, k1, b1, z1⟩ := hp
  have K := hid k1; have BB := hid (BB.out.trans b1)
  clear k1 b1 z1
  go_wp2_with fail
  refine (asm_word w.heap.size g (ado 7 [97, 116] [116, 97, 107, 101, 110] [97, 108, 108] (aif 11 [110, 111, 110, 101] [110, 111] (ado 8 [110, 111, 110, 101] [112, 117, 116] [116, 97, 107, 101, 110] (aword 13 [116, 97, 107, 101, 110] [98, 97, 115, 101] 1 (aword 13 [112, 117, 116] [98, 97, 115, 101] 0 (aset [97, 108, 108] (N : Int) (aset [111, 110, 101] 1 (aregs [] anew)))))))) 13 [118] [97, 116] 2 w4 BB.out.size (Nat.le_of_ble_eq_true (by kernel_rfl)) (Nat.le_of_ble_eq_true (by kernel_rfl)) (Nat.le_of_ble_eq_true (by kernel_rfl)) (Nat.le_of_ble_eq_true (by kernel_rfl)) K.out).mono ?_
  rintro e w5 hp
  obtain ⟨rfl, k1, b1, z1⟩ := hp
  have K := hid k1; have BB := hid (BB.out.trans b1)
  clear k1 b1 z1
  go_wp2_with fail
  refine (asm_do w.heap.size g (aword 13 [118] [97, 116] 2 (ado 7 [97, 116] [116, 97, 107, 101, 110] [97, 108, 108] (aif 11 [110, 111, 110, 101] [110, 111] (ado 8 [110, 111, 110, 101] [112, 117, 116] [116, 97, 107, 101, 110] (aword 13 [116, 97, 107, 101, 110] [98, 97, 115, 101] 1 (aword 13 [112, 117, 116] [98, 97, 115, 101] 0 (aset [97, 108, 108] (N : Int) (aset [111, 110, 101] 1 (aregs [] anew))))))))) 3 [116, 97, 107, 101, 110] [116, 97, 107, 101, 110] [111, 110, 101] w5 BB.out.size (Nat.le_of_ble_eq_true (by kernel_rfl)) (Nat.le_of_ble_eq_true (by kernel_rfl)) (Nat.le_of_ble_eq_true (by kernel_rfl)) (Nat.le_of_ble_eq_true (by kernel_rfl)) (Nat.le_of_ble_eq_true (by kernel_rfl)) K.out).mono ?_
  rintro e w6 hp
  obtain ⟨rfl, k1, b1, z1⟩ := hp
  have K := hid k1; have BB := hid (BB.out.trans b1)
  clear k1 b1 z1
  go_wp2_with fail
  refine (asm_word w.heap.size g (ado 3 [116, 97, 107, 101, 110] [116, 97, 107, 101, 110] [111, 110, 101] (aword 13 [118] [97, 116] 2 (ado 7 [97, 116] [116, 97, 107, 101, 110] [97, 108, 108] (aif 11 [110, 111, 110, 101] [110, 111] (ado 8 [110, 111, 110, 101] [112, 117, 116] [116, 97, 107, 101, 110] (aword 13 [116, 97, 107, 101, 110] [98, 97, 115, 101] 1 (aword 13 [112, 117, 116] [98, 97, 115, 101] 0 (aset [97, 108, 108] (N : Int) (aset [111, 110, 101] 1 (aregs [] anew)))))))))) 14 [116, 97, 107, 101, 110] [98, 97, 115, 101] 1 w6 BB.out.size (Nat.le_of_ble_eq_true (by kernel_rfl)) (Nat.le_of_ble_eq_true (by kernel_rfl)) (Nat.le_of_ble_eq_true (by kernel_rfl)) (Nat.le_of_ble_eq_true (by kernel_rfl)) K.out).mono ?_
  rintro e w7 hp
  obtain ⟨rfl, k1, b1, z1⟩ := hp
  have K := hid k1; have BB := hid (BB.out.trans b1)
  clear k1 b1 z1
  go_wp2_with fail
  refine (asm_tell w.heap.size g (aword 14 [116, 97, 107, 101, 110] [98, 97, 115, 101] 1 (ado 3 [116, 97, 107, 101, 110] [116, 97, 107, 101, 110] [111, 110, 101] (aword 13 [118] [97, 116] 2 (ado 7 [97, 116] [116, 97, 107, 101, 110] [97, 108, 108] (aif 11 [110, 111, 110, 101] [110, 111] (ado 8 [110, 111, 110, 101] [112, 117, 116] [116, 97, 107, 101, 110] (aword 13 [116, 97, 107, 101, 110] [98, 97, 115, 101] 1 (aword 13 [112, 117, 116] [98, 97, 115, 101] 0 (aset [97, 108, 108] (N : Int) (aset [111, 110, 101] 1 (aregs [] anew))))))))))) [[118]] w7.heap.size 1 (w7.alloc (.cells #[.string ⟨#[118]⟩] 9)) (Nat.le_trans BB.out.size (bnew (bnil _) _).size) (by decide) rfl (by decide) (Nat.le_of_ble_eq_true (by kernel_rfl)) (Nat.le_of_ble_eq_true (by kernel_rfl)) (K.out.below (bnew (bnil _) _)) (Blk.new w7 _ _)).mono ?_
  rintro e w8 hp
  obtain ⟨rfl, k1, b1, z1⟩ := hp
  have K := hid k1; have BB := hid ((bgo BB.out (bnew (bnil w7) (.cells #[.string ⟨#[118]⟩] 9))).trans b1)
  clear k1 b1 z1
  go_wp2_with fail
  refine (asm_done w.heap.size g (atell [[118]] (aword 14 [116, 97, 107, 101, 110] [98, 97, 115, 101] 1 (ado 3 [116, 97, 107, 101, 110] [116, 97, 107, 101, 110] [111, 110, 101] (aword 13 [118] [97, 116] 2 (ado 7 [97, 116] [116, 97, 107, 101, 110] [97, 108, 108] (aif 11 [110, 111, 110, 101] [110, 111] (ado 8 [110, 111, 110, 101] [112, 117, 116] [116, 97, 107, 101, 110] (aword 13 [116, 97, 107, 101, 110] [98, 97, 115, 101] 1 (aword 13 [112, 117, 116] [98, 97, 115, 101] 0 (aset [97, 108, 108] (N : Int) (aset [111, 110, 101] 1 (aregs [] anew)))))))))))) w8 BB.out.size (Nat.le_of_ble_eq_true (by kernel_rfl)) K.out).mono ?_
  rintro e w9 hp
  obtain ⟨rfl, k1, b1, z1⟩ := hp
  have K := hid k1; have BB := hid (BB.out.trans b1)
  clear k1 b1 z1
  go_wp2_with fail
  refine (asm_at w.heap.size g (adone (atell [[118]] (aword 14 [116, 97, 107, 101, 110] [98, 97, 115, 101] 1 (ado 3 [116, 97, 107, 101, 110] [116, 97, 107, 101, 110] [111, 110, 101] (aword 13 [118] [97, 116] 2 (ado 7 [97, 116] [116, 97, 107, 101, 110] [97, 108, 108] (aif 11 [110, 111, 110, 101] [110, 111] (ado 8 [110, 111, 110, 101] [112, 117, 116] [116, 97, 107, 101, 110] (aword 13 [116, 97, 107, 101, 110] [98, 97, 115, 101] 1 (aword 13 [112, 117, 116] [98, 97, 115, 101] 0 (aset [97, 108, 108] (N : Int) (aset [111, 110, 101] 1 (aregs [] anew))))))))))))) [110, 111] w9 BB.out.size (Nat.le_of_ble_eq_true (by kernel_rfl)) (Nat.le_of_ble_eq_true (by kernel_rfl)) (Nat.le_of_ble_eq_true (by kernel_rfl)) K.out).mono ?_
  rintro e w10 hp
  obtain ⟨rfl, k1, b1, z1⟩ := hp
  have K := hid k1; have BB := hid (BB.out.trans b1)
  clear k1 b1 z1
  go_wp2_with fail
  refine (asm_set w.heap.size g (aat [110, 111] (adone (atell [[118]] (aword 14 [116, 97, 107, 101, 110] [98, 97, 115, 101] 1 (ado 3 [116, 97, 107, 101, 110] [116, 97, 107, 101, 110] [111, 110, 101] (aword 13 [118] [97, 116] 2 (ado 7 [97, 116] [116, 97, 107, 101, 110] [97, 108, 108] (aif 11 [110, 111, 110, 101] [110, 111] (ado 8 [110, 111, 110, 101] [112, 117, 116] [116, 97, 107, 101, 110] (aword 13 [116, 97, 107, 101, 110] [98, 97, 115, 101] 1 (aword 13 [112, 117, 116] [98, 97, 115, 101] 0 (aset [97, 108, 108] (N : Int) (aset [111, 110, 101] 1 (aregs [] anew)))))))))))))) [118] (-1) w10 BB.out.size (Nat.le_of_ble_eq_true (by kernel_rfl)) (Nat.le_of_ble_eq_true (by kernel_rfl)) (Nat.le_of_ble_eq_true (by kernel_rfl)) K.out).mono ?_
  rintro e w11 hp
  obtain ⟨rfl, k1, b1, z1⟩ := hp
  have K := hid k1; have BB := hid (BB.out.trans b1)
  clear k1 b1 z1
  go_wp2_with fail
  refine (asm_tell w.heap.size g (aset [118] (-1) (aat [110, 111] (adone (atell [[118]] (aword 14 [116, 97, 107, 101, 110] [98, 97, 115, 101] 1 (ado 3 [116, 97, 107, 101, 110] [116, 97, 107, 101, 110] [111, 110, 101] (aword 13 [118] [97, 116] 2 (ado 7 [97, 116] [116, 97, 107, 101, 110] [97, 108, 108] (aif 11 [110, 111, 110, 101] [110, 111] (ado 8 [110, 111, 110, 101] [112, 117, 116] [116, 97, 107, 101, 110] (aword 13 [116, 97, 107, 101, 110] [98, 97, 115, 101] 1 (aword 13 [112, 117, 116] [98, 97, 115, 101] 0 (aset [97, 108, 108] (N : Int) (aset [111, 110, 101] 1 (aregs [] anew))))))))))))))) [[118]] w11.heap.size 1 (w11.alloc (.cells #[.string ⟨#[118]⟩] 9)) (Nat.le_trans BB.out.size (bnew (bnil _) _).size) (by decide) rfl (by decide) (Nat.le_of_ble_eq_true (by kernel_rfl)) (Nat.le_of_ble_eq_true (by kernel_rfl)) (K.out.below (bnew (bnil _) _)) (Blk.new w11 _ _)).mono ?_
  rintro e w12 hp
  obtain ⟨rfl, k1, b1, z1⟩ := hp
  have K := hid k1; have BB := hid ((bgo BB.out (bnew (bnil w11) (.cells #[.string ⟨#[118]⟩] 9))).trans b1)
  clear k1 b1 z1
  go_wp2_with fail
  refine (asm_ops w.heap.size g (atell [[118]] (aset [118] (-1) (aat [110, 111] (adone (atell [[118]] (aword 14 [116, 97, 107, 101, 110] [98, 97, 115, 101] 1 (ado 3 [116, 97, 107, 101, 110] [116, 97, 107, 101, 110] [111, 110, 101] (aword 13 [118] [97, 116] 2 (ado 7 [97, 116] [116, 97, 107, 101, 110] [97, 108, 108] (aif 11 [110, 111, 110, 101] [110, 111] (ado 8 [110, 111, 110, 101] [112, 117, 116] [116, 97, 107, 101, 110] (aword 13 [116, 97, 107, 101, 110] [98, 97, 115, 101] 1 (aword 13 [112, 117, 116] [98, 97, 115, 101] 0 (aset [97, 108, 108] (N : Int) (aset [111, 110, 101] 1 (aregs [] anew)))))))))))))))) w12 BB.out.size (gotos_in (by kernel_rfl)) (Nat.le_of_ble_eq_true (by kernel_rfl)) (Nat.le_of_ble_eq_true (by kernel_rfl)) K.out).mono ?_
  rintro e w99 hp
  have HC := hid (CodePost.of (code := rtakeCode N) BB.out hp (by kernel_rfl))
  obtain ⟨v, rfl, ho⟩ := HC.out
  clear hp
  go_wp2
  go_ret2
  exact ⟨v, rfl, ho⟩
theorem mk_ints (w : World) (n : Nat) (hn : n ≤ 1000) : ∃ cs : Array Value, cs.toList = (List.replicate n (0 : Int)).flatMap gI ∧ (Instr.makeSlice 24 (.int .i64 (n : Int)) (.int .i64 (n : Int))).run Tryd.prog w = .ok (.slice (some ⟨w.heap.size, 0, none⟩) n n) (w.alloc (.cells cs 3)) := by
  have h := run_make_row' (P := Tryd.prog) 24 3 (.int .i64 0) 8 Tryd.underlying24 (by kernel_rfl) rfl .i64 .i64 n (by omega) (by omega) w
  refine ⟨_, ?_, h⟩
  rw [Go.toList_madeCells_one]
  clear h hn
  induction n with
  | zero => rfl
  | succ n ih => rw [List.replicate_succ, List.replicate_succ, List.flatMap_cons, ← ih]; rfl
set_option maxHeartbeats 1000000 in
theorem ring_words (N : Nat) (w : World) (h1 : 1 ≤ N) (h8 : N ≤ 8) : Calls Tryd.prog 53 #[.int .i64 (N : Int)] w fun e w' => ∃ v, e = .returned (.tuple #[v, .int .i64 0]) ∧ Ow w w' 3 1 gI v (List.replicate (N + 2) 0) := by
  obtain ⟨cs, hcs, hmk⟩ := mk_ints w (N + 2) (by omega)
  rw [show ((N + 2 : Nat) : Int) = 2 + (N : Int) by omega] at hmk
  have HCS := hid hcs
  clear hcs
  go_enter Tryd.func53, Tryd.ntmps53
  go_wp2_with fail
  refine (ring_may N w h1 h8).mono ?_
  rintro e w' ⟨rfl, rfl⟩
  go_wp2
  go_ret2
  have hl : cs.size = N + 2 := by rw [← Array.length_toList, HCS.out, flatMap_len gI 1 (fun _ => rfl)]; simp
  refine ⟨_, rfl, ⟨⟨by simp, .inr ⟨w.heap.size, N + 2, cs, by rw [List.length_replicate]; rfl, Nat.le_refl _, Blk.new w _ _, by simp, by unfold maxLen; omega, by rw [hl]; simp, ?_⟩⟩, bnew (bnil w) _⟩⟩
  rw [HCS.out, List.take_of_length_le]
  · rw [flatMap_len gI 1 (fun _ => rfl)]; simp

end Go.Proofs.YtiinnkdhccgelaaDoor
