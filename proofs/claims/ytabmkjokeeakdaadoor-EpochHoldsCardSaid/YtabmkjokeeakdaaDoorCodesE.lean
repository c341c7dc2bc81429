/-
  Codes of package epoch: their walks. Written by gen_codese.py.
-/
import Derived.Test.YtabmkjokeeakdaaDoorCodes1
import Derived.Test.YtabmkjokeeakdaaDoorAsm4
import Derived.Test.YtabmkjokeeakdaaDoorCodesQ
import Derived.Test.YtabmkjokeeakdaaDoorWStep
namespace Go.Proofs.YtabmkjokeeakdaaDoor
open Go.RowKit Go.Maps
set_option linter.unusedVariables false

theorem epoch_may (N : Nat) (w : World) (h1 : 1 ≤ N) (h8 : N ≤ 8) : Calls Tryd.prog 62 #[.int .i64 4, .int .i64 (N : Int)] w fun e w' => e = .returned (.bool true) ∧ w = w' := by
  have i1 : (1 : Int) ≤ (N : Int) := by omega
  have i8 : (N : Int) ≤ 8 := by omega
  go_enter Tryd.func62, Tryd.ntmps62
  go_wp2
  go_ret
  exact ⟨rfl, rfl⟩
def epinCode : List Op5 := [⟨1, 1, 1, 0, 0⟩, ⟨13, 2, 3, 0, 0⟩, ⟨3, 2, 2, 1, 0⟩, ⟨14, 2, 0, 1, 0⟩]
def eunpinCode : List Op5 := [⟨14, 1, 0, 1, 0⟩]
def eretireCode : List Op5 := [⟨1, 1, 1, 0, 0⟩, ⟨13, 2, 3, 0, 0⟩, ⟨3, 4, 2, 1, 0⟩, ⟨2, 5, 4, 0, 0⟩, ⟨15, 5, 3, 0, 2⟩, ⟨12, 5, 1, 0, 0⟩, ⟨14, 4, 0, 5, 0⟩]
def efreeCode (N : Nat) : List Op5 := [⟨1, 0, 1, 0, 0⟩, ⟨1, 1, (N : Int), 0, 0⟩, ⟨1, 2, 4, 0, 0⟩, ⟨1, 3, (-1), 0, 0⟩, ⟨3, 3, 3, 0, 0⟩, ⟨9, 4, 3, 1, 0⟩, ⟨12, 4, 23, 0, 0⟩, ⟨13, 5, 3, 5, 0⟩, ⟨12, 5, 4, 0, 0⟩, ⟨1, 6, (-1), 0, 0⟩, ⟨3, 6, 6, 0, 0⟩, ⟨9, 4, 6, 2, 0⟩, ⟨12, 4, 18, 0, 0⟩, ⟨13, 7, 6, 1, 0⟩, ⟨12, 7, 10, 0, 0⟩, ⟨9, 8, 5, 7, 0⟩, ⟨11, 8, 10, 0, 0⟩, ⟨10, 4, 0, 0, 0⟩, ⟨1, 9, 0, 0, 0⟩, ⟨15, 9, 3, 5, 5⟩, ⟨12, 9, 4, 0, 0⟩, ⟨16, 3, 0, 0, 0⟩, ⟨17, 0, 0, 0, 0⟩, ⟨1, 3, (-1), 0, 0⟩, ⟨16, 3, 0, 0, 0⟩]
set_option maxHeartbeats 1000000 in
theorem epoch_pin (N : Nat) (w : World) (h1 : 1 ≤ N) (h8 : N ≤ 8) : Calls Tryd.prog 33 #[.int .i64 4, .int .i64 (N : Int)] w fun e w' => CodePost2 w (epinCode) e w' := by
  go_enter Tryd.func33, Tryd.ntmps33
  go_wp2_with fail
  refine (epoch_may N w h1 h8).mono ?_
  rintro e w' ⟨rfl, rfl⟩
  go_wp2_with fail
  refine (asm_new w.heap.size [[109, 101]] (some ⟨w.heap.size, 0, none⟩) 1 1 (w.alloc (.cells #[.string ⟨#[109, 101]⟩] 9)) (bnew (bnil w) _).size (by decide) rfl (by decide) (.inr ⟨_, rfl, Blk.new w _ _⟩)).mono ?_
  rintro e w1 hp
  obtain ⟨g, rfl, k1, b1, z1⟩ := hp
  have K := hid k1; have BB := hid ((bnew (bnil w) (.cells #[.string ⟨#[109, 101]⟩] 9)).trans b1)
  clear k1 b1 z1
  go_wp2_with fail
  refine (asm_set w.heap.size g (aregs [[109, 101]] anew) [111, 110, 101] 1 w1 BB.out.size (Nat.le_of_ble_eq_true (by kernel_rfl)) (Nat.le_of_ble_eq_true (by kernel_rfl)) (Nat.le_of_ble_eq_true (by kernel_rfl)) K.out).mono ?_
  rintro e w2 hp
  obtain ⟨rfl, k1, b1, z1⟩ := hp
  have K := hid k1; have BB := hid (BB.out.trans b1)
  clear k1 b1 z1
  go_wp2_with fail
  refine (asm_word w.heap.size g (aset [111, 110, 101] 1 (aregs [[109, 101]] anew)) 13 [116, 117, 114, 110] [98, 97, 115, 101] 0 w2 BB.out.size (Nat.le_of_ble_eq_true (by kernel_rfl)) (Nat.le_of_ble_eq_true (by kernel_rfl)) (Nat.le_of_ble_eq_true (by kernel_rfl)) (Nat.le_of_ble_eq_true (by kernel_rfl)) K.out).mono ?_
  rintro e w3 hp
  obtain ⟨rfl, k1, b1, z1⟩ := hp
  have K := hid k1; have BB := hid (BB.out.trans b1)
  clear k1 b1 z1
  go_wp2_with fail
  refine (asm_do w.heap.size g (aword 13 [116, 117, 114, 110] [98, 97, 115, 101] 0 (aset [111, 110, 101] 1 (aregs [[109, 101]] anew))) 3 [116, 117, 114, 110] [116, 117, 114, 110] [111, 110, 101] w3 BB.out.size (Nat.le_of_ble_eq_true (by kernel_rfl)) (Nat.le_of_ble_eq_true (by kernel_rfl)) (Nat.le_of_ble_eq_true (by kernel_rfl)) (Nat.le_of_ble_eq_true (by kernel_rfl)) (Nat.le_of_ble_eq_true (by kernel_rfl)) K.out).mono ?_
  rintro e w4 hp
  obtain ⟨rfl, k1, b1, z1⟩ := hp
  have K := hid k1; have BB := hid (BB.out.trans b1)
  clear k1 b1 z1
  go_wp2_with fail
  refine (asm_word w.heap.size g (ado 3 [116, 117, 114, 110] [116, 117, 114, 110] [111, 110, 101] (aword 13 [116, 117, 114, 110] [98, 97, 115, 101] 0 (aset [111, 110, 101] 1 (aregs [[109, 101]] anew)))) 14 [116, 117, 114, 110] [109, 101] 1 w4 BB.out.size (Nat.le_of_ble_eq_true (by kernel_rfl)) (Nat.le_of_ble_eq_true (by kernel_rfl)) (Nat.le_of_ble_eq_true (by kernel_rfl)) (Nat.le_of_ble_eq_true (by kernel_rfl)) K.out).mono ?_
  rintro e w5 hp
  obtain ⟨rfl, k1, b1, z1⟩ := hp
  have K := hid k1; have BB := hid (BB.out.trans b1)
  clear k1 b1 z1
  go_wp2_with fail
  refine (asm_ops w.heap.size g (aword 14 [116, 117, 114, 110] [109, 101] 1 (ado 3 [116, 117, 114, 110] [116, 117, 114, 110] [111, 110, 101] (aword 13 [116, 117, 114, 110] [98, 97, 115, 101] 0 (aset [111, 110, 101] 1 (aregs [[109, 101]] anew))))) w5 BB.out.size (gotos_in (by kernel_rfl)) (Nat.le_of_ble_eq_true (by kernel_rfl)) (Nat.le_of_ble_eq_true (by kernel_rfl)) K.out).mono ?_
  rintro e w99 hp
  have HC := hid (CodePost.of (code := epinCode) BB.out hp (by kernel_rfl))
  obtain ⟨v, rfl, ho⟩ := HC.out
  clear hp
  go_wp2
  go_ret2
  exact ⟨v, rfl, ho⟩
set_option maxHeartbeats 1000000 in
theorem epoch_unpin (N : Nat) (w : World) (h1 : 1 ≤ N) (h8 : N ≤ 8) : Calls Tryd.prog 34 #[.int .i64 4, .int .i64 (N : Int)] w fun e w' => CodePost2 w (eunpinCode) e w' := by
  go_enter Tryd.func34, Tryd.ntmps34
  go_wp2_with fail
  refine (epoch_may N w h1 h8).mono ?_
  rintro e w' ⟨rfl, rfl⟩
  go_wp2_with fail
  refine (asm_new w.heap.size [[109, 101]] (some ⟨w.heap.size, 0, none⟩) 1 1 (w.alloc (.cells #[.string ⟨#[109, 101]⟩] 9)) (bnew (bnil w) _).size (by decide) rfl (by decide) (.inr ⟨_, rfl, Blk.new w _ _⟩)).mono ?_
  rintro e w1 hp
  obtain ⟨g, rfl, k1, b1, z1⟩ := hp
  have K := hid k1; have BB := hid ((bnew (bnil w) (.cells #[.string ⟨#[109, 101]⟩] 9)).trans b1)
  clear k1 b1 z1
  go_wp2_with fail
  refine (asm_word w.heap.size g (aregs [[109, 101]] anew) 14 [98, 97, 115, 101] [109, 101] 1 w1 BB.out.size (Nat.le_of_ble_eq_true (by kernel_rfl)) (Nat.le_of_ble_eq_true (by kernel_rfl)) (Nat.le_of_ble_eq_true (by kernel_rfl)) (Nat.le_of_ble_eq_true (by kernel_rfl)) K.out).mono ?_
  rintro e w2 hp
  obtain ⟨rfl, k1, b1, z1⟩ := hp
  have K := hid k1; have BB := hid (BB.out.trans b1)
  clear k1 b1 z1
  go_wp2_with fail
  refine (asm_ops w.heap.size g (aword 14 [98, 97, 115, 101] [109, 101] 1 (aregs [[109, 101]] anew)) w2 BB.out.size (gotos_in (by kernel_rfl)) (Nat.le_of_ble_eq_true (by kernel_rfl)) (Nat.le_of_ble_eq_true (by kernel_rfl)) K.out).mono ?_
  rintro e w99 hp
  have HC := hid (CodePost.of (code := eunpinCode) BB.out hp (by kernel_rfl))
  obtain ⟨v, rfl, ho⟩ := HC.out
  clear hp
  go_wp2
  go_ret2
  exact ⟨v, rfl, ho⟩
set_option maxHeartbeats 1000000 in
theorem epoch_retire (N : Nat) (w : World) (h1 : 1 ≤ N) (h8 : N ≤ 8) : Calls Tryd.prog 35 #[.int .i64 4, .int .i64 (N : Int)] w fun e w' => CodePost2 w (eretireCode) e w' := by
  go_enter Tryd.func35, Tryd.ntmps35
  go_wp2_with fail
  refine (epoch_may N w h1 h8).mono ?_
  rintro e w' ⟨rfl, rfl⟩
  go_wp2_with fail
  refine (asm_new w.heap.size [[115, 108, 111, 116]] (some ⟨w.heap.size, 0, none⟩) 1 1 (w.alloc (.cells #[.string ⟨#[115, 108, 111, 116]⟩] 9)) (bnew (bnil w) _).size (by decide) rfl (by decide) (.inr ⟨_, rfl, Blk.new w _ _⟩)).mono ?_
  rintro e w1 hp
  obtain ⟨g, rfl, k1, b1, z1⟩ := hp
  have K := hid k1; have BB := hid ((bnew (bnil w) (.cells #[.string ⟨#[115, 108, 111, 116]⟩] 9)).trans b1)
  clear k1 b1 z1
  go_wp2_with fail
  refine (asm_set w.heap.size g (aregs [[115, 108, 111, 116]] anew) [111, 110, 101] 1 w1 BB.out.size (Nat.le_of_ble_eq_true (by kernel_rfl)) (Nat.le_of_ble_eq_true (by kernel_rfl)) (Nat.le_of_ble_eq_true (by kernel_rfl)) K.out).mono ?_
  rintro e w2 hp
  obtain ⟨rfl, k1, b1, z1⟩ := hp
  have K := hid k1; have BB := hid (BB.out.trans b1)
  clear k1 b1 z1
  go_wp2_with fail
  refine (asm_at w.heap.size g (aset [111, 110, 101] 1 (aregs [[115, 108, 111, 116]] anew)) [97, 103, 97, 105, 110] w2 BB.out.size (Nat.le_of_ble_eq_true (by kernel_rfl)) (Nat.le_of_ble_eq_true (by kernel_rfl)) (Nat.le_of_ble_eq_true (by kernel_rfl)) K.out).mono ?_
  rintro e w3 hp
  obtain ⟨rfl, k1, b1, z1⟩ := hp
  have K := hid k1; have BB := hid (BB.out.trans b1)
  clear k1 b1 z1
  go_wp2_with fail
  refine (asm_word w.heap.size g (aat [97, 103, 97, 105, 110] (aset [111, 110, 101] 1 (aregs [[115, 108, 111, 116]] anew))) 13 [110, 111, 119] [98, 97, 115, 101] 0 w3 BB.out.size (Nat.le_of_ble_eq_true (by kernel_rfl)) (Nat.le_of_ble_eq_true (by kernel_rfl)) (Nat.le_of_ble_eq_true (by kernel_rfl)) (Nat.le_of_ble_eq_true (by kernel_rfl)) K.out).mono ?_
  rintro e w4 hp
  obtain ⟨rfl, k1, b1, z1⟩ := hp
  have K := hid k1; have BB := hid (BB.out.trans b1)
  clear k1 b1 z1
  go_wp2_with fail
  refine (asm_do w.heap.size g (aword 13 [110, 111, 119] [98, 97, 115, 101] 0 (aat [97, 103, 97, 105, 110] (aset [111, 110, 101] 1 (aregs [[115, 108, 111, 116]] anew)))) 3 [116, 117, 114, 110] [110, 111, 119] [111, 110, 101] w4 BB.out.size (Nat.le_of_ble_eq_true (by kernel_rfl)) (Nat.le_of_ble_eq_true (by kernel_rfl)) (Nat.le_of_ble_eq_true (by kernel_rfl)) (Nat.le_of_ble_eq_true (by kernel_rfl)) (Nat.le_of_ble_eq_true (by kernel_rfl)) K.out).mono ?_
  rintro e w5 hp
  obtain ⟨rfl, k1, b1, z1⟩ := hp
  have K := hid k1; have BB := hid (BB.out.trans b1)
  clear k1 b1 z1
  go_wp2_with fail
  refine (asm_copy w.heap.size g (ado 3 [116, 117, 114, 110] [110, 111, 119] [111, 110, 101] (aword 13 [110, 111, 119] [98, 97, 115, 101] 0 (aat [97, 103, 97, 105, 110] (aset [111, 110, 101] 1 (aregs [[115, 108, 111, 116]] anew))))) [110, 101, 120, 116] [116, 117, 114, 110] w5 BB.out.size (Nat.le_of_ble_eq_true (by kernel_rfl)) (Nat.le_of_ble_eq_true (by kernel_rfl)) (Nat.le_of_ble_eq_true (by kernel_rfl)) (Nat.le_of_ble_eq_true (by kernel_rfl)) K.out).mono ?_
  rintro e w6 hp
  obtain ⟨rfl, k1, b1, z1⟩ := hp
  have K := hid k1; have BB := hid (BB.out.trans b1)
  clear k1 b1 z1
  go_wp2_with fail
  refine (asm_cas w.heap.size g (acopy [110, 101, 120, 116] [116, 117, 114, 110] (ado 3 [116, 117, 114, 110] [110, 111, 119] [111, 110, 101] (aword 13 [110, 111, 119] [98, 97, 115, 101] 0 (aat [97, 103, 97, 105, 110] (aset [111, 110, 101] 1 (aregs [[115, 108, 111, 116]] anew)))))) [110, 101, 120, 116] [98, 97, 115, 101] 0 [110, 111, 119] w6 BB.out.size (Nat.le_of_ble_eq_true (by kernel_rfl)) (Nat.le_of_ble_eq_true (by kernel_rfl)) (Nat.le_of_ble_eq_true (by kernel_rfl)) (Nat.le_of_ble_eq_true (by kernel_rfl)) (Nat.le_of_ble_eq_true (by kernel_rfl)) K.out).mono ?_
  rintro e w7 hp
  obtain ⟨rfl, k1, b1, z1⟩ := hp
  have K := hid k1; have BB := hid (BB.out.trans b1)
  clear k1 b1 z1
  go_wp2_with fail
  refine (asm_if w.heap.size g (acas [110, 101, 120, 116] [98, 97, 115, 101] 0 [110, 111, 119] (acopy [110, 101, 120, 116] [116, 117, 114, 110] (ado 3 [116, 117, 114, 110] [110, 111, 119] [111, 110, 101] (aword 13 [110, 111, 119] [98, 97, 115, 101] 0 (aat [97, 103, 97, 105, 110] (aset [111, 110, 101] 1 (aregs [[115, 108, 111, 116]] anew))))))) 12 [110, 101, 120, 116] [97, 103, 97, 105, 110] w7 BB.out.size (Nat.le_of_ble_eq_true (by kernel_rfl)) (Nat.le_of_ble_eq_true (by kernel_rfl)) (Nat.le_of_ble_eq_true (by kernel_rfl)) (Nat.le_of_ble_eq_true (by kernel_rfl)) K.out).mono ?_
  rintro e w8 hp
  obtain ⟨rfl, k1, b1, z1⟩ := hp
  have K := hid k1; have BB := hid (BB.out.trans b1)
  clear k1 b1 z1
  go_wp2_with fail
  refine (asm_word w.heap.size g (aif 12 [110, 101, 120, 116] [97, 103, 97, 105, 110] (acas [110, 101, 120, 116] [98, 97, 115, 101] 0 [110, 111, 119] (acopy [110, 101, 120, 116] [116, 117, 114, 110] (ado 3 [116, 117, 114, 110] [110, 111, 119] [111, 110, 101] (aword 13 [110, 111, 119] [98, 97, 115, 101] 0 (aat [97, 103, 97, 105, 110] (aset [111, 110, 101] 1 (aregs [[115, 108, 111, 116]] anew)))))))) 14 [116, 117, 114, 110] [115, 108, 111, 116] 5 w8 BB.out.size (Nat.le_of_ble_eq_true (by kernel_rfl)) (Nat.le_of_ble_eq_true (by kernel_rfl)) (Nat.le_of_ble_eq_true (by kernel_rfl)) (Nat.le_of_ble_eq_true (by kernel_rfl)) K.out).mono ?_
  rintro e w9 hp
  obtain ⟨rfl, k1, b1, z1⟩ := hp
  have K := hid k1; have BB := hid (BB.out.trans b1)
  clear k1 b1 z1
  go_wp2_with fail
  refine (asm_ops w.heap.size g (aword 14 [116, 117, 114, 110] [115, 108, 111, 116] 5 (aif 12 [110, 101, 120, 116] [97, 103, 97, 105, 110] (acas [110, 101, 120, 116] [98, 97, 115, 101] 0 [110, 111, 119] (acopy [110, 101, 120, 116] [116, 117, 114, 110] (ado 3 [116, 117, 114, 110] [110, 111, 119] [111, 110, 101] (aword 13 [110, 111, 119] [98, 97, 115, 101] 0 (aat [97, 103, 97, 105, 110] (aset [111, 110, 101] 1 (aregs [[115, 108, 111, 116]] anew))))))))) w9 BB.out.size (gotos_in (by kernel_rfl)) (Nat.le_of_ble_eq_true (by kernel_rfl)) (Nat.le_of_ble_eq_true (by kernel_rfl)) K.out).mono ?_
  rintro e w99 hp
  have HC := hid (CodePost.of (code := eretireCode) BB.out hp (by kernel_rfl))
  obtain ⟨v, rfl, ho⟩ := HC.out
  clear hp
  go_wp2
  go_ret2
  exact ⟨v, rfl, ho⟩
set_option maxHeartbeats 1000000 in
theorem epoch_free (N : Nat) (w : World) (h1 : 1 ≤ N) (h8 : N ≤ 8) : Calls Tryd.prog 36 #[.int .i64 4, .int .i64 (N : Int)] w fun e w' => CodePost2 w (efreeCode N) e w' := by
  go_enter Tryd.func36, Tryd.ntmps36
  go_wp2_with fail
  refine (epoch_may N w h1 h8).mono ?_
  rintro e w' ⟨rfl, rfl⟩
  go_wp2_with fail
  refine (asm_new w.heap.size [] none 0 0 w (Nat.le_refl _) (by simp) rfl (by decide) (.inl rfl)).mono ?_
  rintro e w1 hp
  obtain ⟨g, rfl, k1, b1, z1⟩ := hp
  have K := hid k1; have BB := hid b1
  clear k1 b1 z1
  go_wp2_with fail
  refine (asm_set w.heap.size g (aregs [] anew) [111, 110, 101] 1 w1 BB.out.size (Nat.le_of_ble_eq_true (by kernel_rfl)) (Nat.le_of_ble_eq_true (by kernel_rfl)) (Nat.le_of_ble_eq_true (by kernel_rfl)) K.out).mono ?_
  rintro e w2 hp
  obtain ⟨rfl, k1, b1, z1⟩ := hp
  have K := hid k1; have BB := hid (BB.out.trans b1)
  clear k1 b1 z1
  go_wp2_with fail
  refine (asm_set w.heap.size g (aset [111, 110, 101] 1 (aregs [] anew)) [115, 108, 111, 116, 115] (N : Int) w2 BB.out.size (Nat.le_of_ble_eq_true (by kernel_rfl)) (Nat.le_of_ble_eq_true (by kernel_rfl)) (Nat.le_of_ble_eq_true (by kernel_rfl)) K.out).mono ?_
  rintro e w3 hp
  obtain ⟨rfl, k1, b1, z1⟩ := hp
  have K := hid k1; have BB := hid (BB.out.trans b1)
  clear k1 b1 z1
  go_wp2_with fail
  refine (asm_set w.heap.size g (aset [115, 108, 111, 116, 115] (N : Int) (aset [111, 110, 101] 1 (aregs [] anew))) [116, 104, 114, 101, 97, 100, 115] 4 w3 BB.out.size (Nat.le_of_ble_eq_true (by kernel_rfl)) (Nat.le_of_ble_eq_true (by kernel_rfl)) (Nat.le_of_ble_eq_true (by kernel_rfl)) K.out).mono ?_
  rintro e w4 hp
  obtain ⟨rfl, k1, b1, z1⟩ := hp
  have K := hid k1; have BB := hid (BB.out.trans b1)
  clear k1 b1 z1
  go_wp2_with fail
  refine (asm_set w.heap.size g (aset [116, 104, 114, 101, 97, 100, 115] 4 (aset [115, 108, 111, 116, 115] (N : Int) (aset [111, 110, 101] 1 (aregs [] anew)))) [115, 108, 111, 116] (-1) w4 BB.out.size (Nat.le_of_ble_eq_true (by kernel_rfl)) (Nat.le_of_ble_eq_true (by kernel_rfl)) (Nat.le_of_ble_eq_true (by kernel_rfl)) K.out).mono ?_
  rintro e w5 hp
  obtain ⟨rfl, k1, b1, z1⟩ := hp
  have K := hid k1; have BB := hid (BB.out.trans b1)
  clear k1 b1 z1
  go_wp2_with fail
  refine (asm_at w.heap.size g (aset [115, 108, 111, 116] (-1) (aset [116, 104, 114, 101, 97, 100, 115] 4 (aset [115, 108, 111, 116, 115] (N : Int) (aset [111, 110, 101] 1 (aregs [] anew))))) [115, 108, 111, 116] w5 BB.out.size (Nat.le_of_ble_eq_true (by kernel_rfl)) (Nat.le_of_ble_eq_true (by kernel_rfl)) (Nat.le_of_ble_eq_true (by kernel_rfl)) K.out).mono ?_
  rintro e w6 hp
  obtain ⟨rfl, k1, b1, z1⟩ := hp
  have K := hid k1; have BB := hid (BB.out.trans b1)
  clear k1 b1 z1
  go_wp2_with fail
  refine (asm_do w.heap.size g (aat [115, 108, 111, 116] (aset [115, 108, 111, 116] (-1) (aset [116, 104, 114, 101, 97, 100, 115] 4 (aset [115, 108, 111, 116, 115] (N : Int) (aset [111, 110, 101] 1 (aregs [] anew)))))) 3 [115, 108, 111, 116] [115, 108, 111, 116] [111, 110, 101] w6 BB.out.size (Nat.le_of_ble_eq_true (by kernel_rfl)) (Nat.le_of_ble_eq_true (by kernel_rfl)) (Nat.le_of_ble_eq_true (by kernel_rfl)) (Nat.le_of_ble_eq_true (by kernel_rfl)) (Nat.le_of_ble_eq_true (by kernel_rfl)) K.out).mono ?_
  rintro e w7 hp
  obtain ⟨rfl, k1, b1, z1⟩ := hp
  have K := hid k1; have BB := hid (BB.out.trans b1)
  clear k1 b1 z1
  go_wp2_with fail
  refine (asm_do w.heap.size g (ado 3 [115, 108, 111, 116] [115, 108, 111, 116] [111, 110, 101] (aat [115, 108, 111, 116] (aset [115, 108, 111, 116] (-1) (aset [116, 104, 114, 101, 97, 100, 115] 4 (aset [115, 108, 111, 116, 115] (N : Int) (aset [111, 110, 101] 1 (aregs [] anew))))))) 9 [109, 111, 114, 101] [115, 108, 111, 116] [115, 108, 111, 116, 115] w7 BB.out.size (Nat.le_of_ble_eq_true (by kernel_rfl)) (Nat.le_of_ble_eq_true (by kernel_rfl)) (Nat.le_of_ble_eq_true (by kernel_rfl)) (Nat.le_of_ble_eq_true (by kernel_rfl)) (Nat.le_of_ble_eq_true (by kernel_rfl)) K.out).mono ?_
  rintro e w8 hp
  obtain ⟨rfl, k1, b1, z1⟩ := hp
  have K := hid k1; have BB := hid (BB.out.trans b1)
  clear k1 b1 z1
  go_wp2_with fail
  refine (asm_if w.heap.size g (ado 9 [109, 111, 114, 101] [115, 108, 111, 116] [115, 108, 111, 116, 115] (ado 3 [115, 108, 111, 116] [115, 108, 111, 116] [111, 110, 101] (aat [115, 108, 111, 116] (aset [115, 108, 111, 116] (-1) (aset [116, 104, 114, 101, 97, 100, 115] 4 (aset [115, 108, 111, 116, 115] (N : Int) (aset [111, 110, 101] 1 (aregs [] anew)))))))) 12 [109, 111, 114, 101] [110, 111, 110, 101] w8 BB.out.size (Nat.le_of_ble_eq_true (by kernel_rfl)) (Nat.le_of_ble_eq_true (by kernel_rfl)) (Nat.le_of_ble_eq_true (by kernel_rfl)) (Nat.le_of_ble_eq_true (by kernel_rfl)) K.out).mono ?_
  rintro e w9 hp
  obtain ⟨rfl, k1, b1, z1⟩ := hp
  have K := hid k1; have BB := hid (BB.out.trans b1)
  clear k1 b1 z1
  go_wp2_with fail
  refine (asm_word w.heap.size g (aif 12 [109, 111, 114, 101] [110, 111, 110, 101] (ado 9 [109, 111, 114, 101] [115, 108, 111, 116] [115, 108, 111, 116, 115] (ado 3 [115, 108, 111, 116] [115, 108, 111, 116] [111, 110, 101] (aat [115, 108, 111, 116] (aset [115, 108, 111, 116] (-1) (aset [116, 104, 114, 101, 97, 100, 115] 4 (aset [115, 108, 111, 116, 115] (N : Int) (aset [111, 110, 101] 1 (aregs [] anew))))))))) 13 [116, 117, 114, 110] [115, 108, 111, 116] 5 w9 BB.out.size (Nat.le_of_ble_eq_true (by kernel_rfl)) (Nat.le_of_ble_eq_true (by kernel_rfl)) (Nat.le_of_ble_eq_true (by kernel_rfl)) (Nat.le_of_ble_eq_true (by kernel_rfl)) K.out).mono ?_
  rintro e w10 hp
  obtain ⟨rfl, k1, b1, z1⟩ := hp
  have K := hid k1; have BB := hid (BB.out.trans b1)
  clear k1 b1 z1
  go_wp2_with fail
  refine (asm_if w.heap.size g (aword 13 [116, 117, 114, 110] [115, 108, 111, 116] 5 (aif 12 [109, 111, 114, 101] [110, 111, 110, 101] (ado 9 [109, 111, 114, 101] [115, 108, 111, 116] [115, 108, 111, 116, 115] (ado 3 [115, 108, 111, 116] [115, 108, 111, 116] [111, 110, 101] (aat [115, 108, 111, 116] (aset [115, 108, 111, 116] (-1) (aset [116, 104, 114, 101, 97, 100, 115] 4 (aset [115, 108, 111, 116, 115] (N : Int) (aset [111, 110, 101] 1 (aregs [] anew)))))))))) 12 [116, 117, 114, 110] [115, 108, 111, 116] w10 BB.out.size (Nat.le_of_ble_eq_true (by kernel_rfl)) (Nat.le_of_ble_eq_true (by kernel_rfl)) (Nat.le_of_ble_eq_true (by kernel_rfl)) (Nat.le_of_ble_eq_true (by kernel_rfl)) K.out).mono ?_
  rintro e w11 hp
  obtain ⟨rfl, k1, b1, z1⟩ := hp
  have K := hid k1; have BB := hid (BB.out.trans b1)
  clear k1 b1 z1
  go_wp2_with fail
  refine (asm_set w.heap.size g (aif 12 [116, 117, 114, 110] [115, 108, 111, 116] (aword 13 [116, 117, 114, 110] [115, 108, 111, 116] 5 (aif 12 [109, 111, 114, 101] [110, 111, 110, 101] (ado 9 [109, 111, 114, 101] [115, 108, 111, 116] [115, 108, 111, 116, 115] (ado 3 [115, 108, 111, 116] [115, 108, 111, 116] [111, 110, 101] (aat [115, 108, 111, 116] (aset [115, 108, 111, 116] (-1) (aset [116, 104, 114, 101, 97, 100, 115] 4 (aset [115, 108, 111, 116, 115] (N : Int) (aset [111, 110, 101] 1 (aregs [] anew))))))))))) [119, 104, 111] (-1) w11 BB.out.size (Nat.le_of_ble_eq_true (by kernel_rfl)) (Nat.le_of_ble_eq_true (by kernel_rfl)) (Nat.le_of_ble_eq_true (by kernel_rfl)) K.out).mono ?_
  rintro e w12 hp
  obtain ⟨rfl, k1, b1, z1⟩ := hp
  have K := hid k1; have BB := hid (BB.out.trans b1)
  clear k1 b1 z1
  go_wp2_with fail
  refine (asm_at w.heap.size g (aset [119, 104, 111] (-1) (aif 12 [116, 117, 114, 110] [115, 108, 111, 116] (aword 13 [116, 117, 114, 110] [115, 108, 111, 116] 5 (aif 12 [109, 111, 114, 101] [110, 111, 110, 101] (ado 9 [109, 111, 114, 101] [115, 108, 111, 116] [115, 108, 111, 116, 115] (ado 3 [115, 108, 111, 116] [115, 108, 111, 116] [111, 110, 101] (aat [115, 108, 111, 116] (aset [115, 108, 111, 116] (-1) (aset [116, 104, 114, 101, 97, 100, 115] 4 (aset [115, 108, 111, 116, 115] (N : Int) (aset [111, 110, 101] 1 (aregs [] anew)))))))))))) [119, 104, 111] w12 BB.out.size (Nat.le_of_ble_eq_true (by kernel_rfl)) (Nat.le_of_ble_eq_true (by kernel_rfl)) (Nat.le_of_ble_eq_true (by kernel_rfl)) K.out).mono ?_
  rintro e w13 hp
  obtain ⟨rfl, k1, b1, z1⟩ := hp
  have K := hid k1; have BB := hid (BB.out.trans b1)
  clear k1 b1 z1
  go_wp2_with fail
  refine (asm_do w.heap.size g (aat [119, 104, 111] (aset [119, 104, 111] (-1) (aif 12 [116, 117, 114, 110] [115, 108, 111, 116] (aword 13 [116, 117, 114, 110] [115, 108, 111, 116] 5 (aif 12 [109, 111, 114, 101] [110, 111, 110, 101] (ado 9 [109, 111, 114, 101] [115, 108, 111, 116] [115, 108, 111, 116, 115] (ado 3 [115, 108, 111, 116] [115, 108, 111, 116] [111, 110, 101] (aat [115, 108, 111, 116] (aset [115, 108, 111, 116] (-1) (aset [116, 104, 114, 101, 97, 100, 115] 4 (aset [115, 108, 111, 116, 115] (N : Int) (aset [111, 110, 101] 1 (aregs [] anew))))))))))))) 3 [119, 104, 111] [119, 104, 111] [111, 110, 101] w13 BB.out.size (Nat.le_of_ble_eq_true (by kernel_rfl)) (Nat.le_of_ble_eq_true (by kernel_rfl)) (Nat.le_of_ble_eq_true (by kernel_rfl)) (Nat.le_of_ble_eq_true (by kernel_rfl)) (Nat.le_of_ble_eq_true (by kernel_rfl)) K.out).mono ?_
  rintro e w14 hp
  obtain ⟨rfl, k1, b1, z1⟩ := hp
  have K := hid k1; have BB := hid (BB.out.trans b1)
  clear k1 b1 z1
  go_wp2_with fail
  refine (asm_do w.heap.size g (ado 3 [119, 104, 111] [119, 104, 111] [111, 110, 101] (aat [119, 104, 111] (aset [119, 104, 111] (-1) (aif 12 [116, 117, 114, 110] [115, 108, 111, 116] (aword 13 [116, 117, 114, 110] [115, 108, 111, 116] 5 (aif 12 [109, 111, 114, 101] [110, 111, 110, 101] (ado 9 [109, 111, 114, 101] [115, 108, 111, 116] [115, 108, 111, 116, 115] (ado 3 [115, 108, 111, 116] [115, 108, 111, 116] [111, 110, 101] (aat [115, 108, 111, 116] (aset [115, 108, 111, 116] (-1) (aset [116, 104, 114, 101, 97, 100, 115] 4 (aset [115, 108, 111, 116, 115] (N : Int) (aset [111, 110, 101] 1 (aregs [] anew)))))))))))))) 9 [109, 111, 114, 101] [119, 104, 111] [116, 104, 114, 101, 97, 100, 115] w14 BB.out.size (Nat.le_of_ble_eq_true (by kernel_rfl)) (Nat.le_of_ble_eq_true (by kernel_rfl)) (Nat.le_of_ble_eq_true (by kernel_rfl)) (Nat.le_of_ble_eq_true (by kernel_rfl)) (Nat.le_of_ble_eq_true (by kernel_rfl)) K.out).mono ?_
  rintro e w15 hp
  obtain ⟨rfl, k1, b1, z1⟩ := hp
  have K := hid k1; have BB := hid (BB.out.trans b1)
  clear k1 b1 z1
  go_wp2_with fail
  refine (asm_if w.heap.size g (ado 9 [109, 111, 114, 101] [119, 104, 111] [116, 104, 114, 101, 97, 100, 115] (ado 3 [119, 104, 111] [119, 104, 111] [111, 110, 101] (aat [119, 104, 111] (aset [119, 104, 111] (-1) (aif 12 [116, 117, 114, 110] [115, 108, 111, 116] (aword 13 [116, 117, 114, 110] [115, 108, 111, 116] 5 (aif 12 [109, 111, 114, 101] [110, 111, 110, 101] (ado 9 [109, 111, 114, 101] [115, 108, 111, 116] [115, 108, 111, 116, 115] (ado 3 [115, 108, 111, 116] [115, 108, 111, 116] [111, 110, 101] (aat [115, 108, 111, 116] (aset [115, 108, 111, 116] (-1) (aset [116, 104, 114, 101, 97, 100, 115] 4 (aset [115, 108, 111, 116, 115] (N : Int) (aset [111, 110, 101] 1 (aregs [] anew))))))))))))))) 12 [109, 111, 114, 101] [116, 97, 107, 101] w15 BB.out.size (Nat.le_of_ble_eq_true (by kernel_rfl)) (Nat.le_of_ble_eq_true (by kernel_rfl)) (Nat.le_of_ble_eq_true (by kernel_rfl)) (Nat.le_of_ble_eq_true (by kernel_rfl)) K.out).mono ?_
  rintro e w16 hp
  obtain ⟨rfl, k1, b1, z1⟩ := hp
  have K := hid k1; have BB := hid (BB.out.trans b1)
  clear k1 b1 z1
  go_wp2_with fail
  refine (asm_word w.heap.size g (aif 12 [109, 111, 114, 101] [116, 97, 107, 101] (ado 9 [109, 111, 114, 101] [119, 104, 111] [116, 104, 114, 101, 97, 100, 115] (ado 3 [119, 104, 111] [119, 104, 111] [111, 110, 101] (aat [119, 104, 111] (aset [119, 104, 111] (-1) (aif 12 [116, 117, 114, 110] [115, 108, 111, 116] (aword 13 [116, 117, 114, 110] [115, 108, 111, 116] 5 (aif 12 [109, 111, 114, 101] [110, 111, 110, 101] (ado 9 [109, 111, 114, 101] [115, 108, 111, 116] [115, 108, 111, 116, 115] (ado 3 [115, 108, 111, 116] [115, 108, 111, 116] [111, 110, 101] (aat [115, 108, 111, 116] (aset [115, 108, 111, 116] (-1) (aset [116, 104, 114, 101, 97, 100, 115] 4 (aset [115, 108, 111, 116, 115] (N : Int) (aset [111, 110, 101] 1 (aregs [] anew)))))))))))))))) 13 [112, 105, 110] [119, 104, 111] 1 w16 BB.out.size (Nat.le_of_ble_eq_true (by kernel_rfl)) (Nat.le_of_ble_eq_true (by kernel_rfl)) (Nat.le_of_ble_eq_true (by kernel_rfl)) (Nat.le_of_ble_eq_true (by kernel_rfl)) K.out).mono ?_
  rintro e w17 hp
  obtain ⟨rfl, k1, b1, z1⟩ := hp
  have K := hid k1; have BB := hid (BB.out.trans b1)
  clear k1 b1 z1
  go_wp2_with fail
  refine (asm_if w.heap.size g (aword 13 [112, 105, 110] [119, 104, 111] 1 (aif 12 [109, 111, 114, 101] [116, 97, 107, 101] (ado 9 [109, 111, 114, 101] [119, 104, 111] [116, 104, 114, 101, 97, 100, 115] (ado 3 [119, 104, 111] [119, 104, 111] [111, 110, 101] (aat [119, 104, 111] (aset [119, 104, 111] (-1) (aif 12 [116, 117, 114, 110] [115, 108, 111, 116] (aword 13 [116, 117, 114, 110] [115, 108, 111, 116] 5 (aif 12 [109, 111, 114, 101] [110, 111, 110, 101] (ado 9 [109, 111, 114, 101] [115, 108, 111, 116] [115, 108, 111, 116, 115] (ado 3 [115, 108, 111, 116] [115, 108, 111, 116] [111, 110, 101] (aat [115, 108, 111, 116] (aset [115, 108, 111, 116] (-1) (aset [116, 104, 114, 101, 97, 100, 115] 4 (aset [115, 108, 111, 116, 115] (N : Int) (aset [111, 110, 101] 1 (aregs [] anew))))))))))))))))) 12 [112, 105, 110] [119, 104, 111] w17 BB.out.size (Nat.le_of_ble_eq_true (by kernel_rfl)) (Nat.le_of_ble_eq_true (by kernel_rfl)) (Nat.le_of_ble_eq_true (by kernel_rfl)) (Nat.le_of_ble_eq_true (by kernel_rfl)) K.out).mono ?_
  rintro e w18 hp
  obtain ⟨rfl, k1, b1, z1⟩ := hp
  have K := hid k1; have BB := hid (BB.out.trans b1)
  clear k1 b1 z1
  go_wp2_with fail
  refine (asm_do w.heap.size g (aif 12 [112, 105, 110] [119, 104, 111] (aword 13 [112, 105, 110] [119, 104, 111] 1 (aif 12 [109, 111, 114, 101] [116, 97, 107, 101] (ado 9 [109, 111, 114, 101] [119, 104, 111] [116, 104, 114, 101, 97, 100, 115] (ado 3 [119, 104, 111] [119, 104, 111] [111, 110, 101] (aat [119, 104, 111] (aset [119, 104, 111] (-1) (aif 12 [116, 117, 114, 110] [115, 108, 111, 116] (aword 13 [116, 117, 114, 110] [115, 108, 111, 116] 5 (aif 12 [109, 111, 114, 101] [110, 111, 110, 101] (ado 9 [109, 111, 114, 101] [115, 108, 111, 116] [115, 108, 111, 116, 115] (ado 3 [115, 108, 111, 116] [115, 108, 111, 116] [111, 110, 101] (aat [115, 108, 111, 116] (aset [115, 108, 111, 116] (-1) (aset [116, 104, 114, 101, 97, 100, 115] 4 (aset [115, 108, 111, 116, 115] (N : Int) (aset [111, 110, 101] 1 (aregs [] anew)))))))))))))))))) 9 [108, 97, 116, 101, 114] [116, 117, 114, 110] [112, 105, 110] w18 BB.out.size (Nat.le_of_ble_eq_true (by kernel_rfl)) (Nat.le_of_ble_eq_true (by kernel_rfl)) (Nat.le_of_ble_eq_true (by kernel_rfl)) (Nat.le_of_ble_eq_true (by kernel_rfl)) (Nat.le_of_ble_eq_true (by kernel_rfl)) K.out).mono ?_
  rintro e w19 hp
  obtain ⟨rfl, k1, b1, z1⟩ := hp
  have K := hid k1; have BB := hid (BB.out.trans b1)
  clear k1 b1 z1
  go_wp2_with fail
  refine (asm_if w.heap.size g (ado 9 [108, 97, 116, 101, 114] [116, 117, 114, 110] [112, 105, 110] (aif 12 [112, 105, 110] [119, 104, 111] (aword 13 [112, 105, 110] [119, 104, 111] 1 (aif 12 [109, 111, 114, 101] [116, 97, 107, 101] (ado 9 [109, 111, 114, 101] [119, 104, 111] [116, 104, 114, 101, 97, 100, 115] (ado 3 [119, 104, 111] [119, 104, 111] [111, 110, 101] (aat [119, 104, 111] (aset [119, 104, 111] (-1) (aif 12 [116, 117, 114, 110] [115, 108, 111, 116] (aword 13 [116, 117, 114, 110] [115, 108, 111, 116] 5 (aif 12 [109, 111, 114, 101] [110, 111, 110, 101] (ado 9 [109, 111, 114, 101] [115, 108, 111, 116] [115, 108, 111, 116, 115] (ado 3 [115, 108, 111, 116] [115, 108, 111, 116] [111, 110, 101] (aat [115, 108, 111, 116] (aset [115, 108, 111, 116] (-1) (aset [116, 104, 114, 101, 97, 100, 115] 4 (aset [115, 108, 111, 116, 115] (N : Int) (aset [111, 110, 101] 1 (aregs [] anew))))))))))))))))))) 11 [108, 97, 116, 101, 114] [119, 104, 111] w19 BB.out.size (Nat.le_of_ble_eq_true (by kernel_rfl)) (Nat.le_of_ble_eq_true (by kernel_rfl)) (Nat.le_of_ble_eq_true (by kernel_rfl)) (Nat.le_of_ble_eq_true (by kernel_rfl)) K.out).mono ?_
  rintro e w20 hp
  obtain ⟨rfl, k1, b1, z1⟩ := hp
  have K := hid k1; have BB := hid (BB.out.trans b1)
  clear k1 b1 z1
  go_wp2_with fail
  refine (asm_goto w.heap.size g (aif 11 [108, 97, 116, 101, 114] [119, 104, 111] (ado 9 [108, 97, 116, 101, 114] [116, 117, 114, 110] [112, 105, 110] (aif 12 [112, 105, 110] [119, 104, 111] (aword 13 [112, 105, 110] [119, 104, 111] 1 (aif 12 [109, 111, 114, 101] [116, 97, 107, 101] (ado 9 [109, 111, 114, 101] [119, 104, 111] [116, 104, 114, 101, 97, 100, 115] (ado 3 [119, 104, 111] [119, 104, 111] [111, 110, 101] (aat [119, 104, 111] (aset [119, 104, 111] (-1) (aif 12 [116, 117, 114, 110] [115, 108, 111, 116] (aword 13 [116, 117, 114, 110] [115, 108, 111, 116] 5 (aif 12 [109, 111, 114, 101] [110, 111, 110, 101] (ado 9 [109, 111, 114, 101] [115, 108, 111, 116] [115, 108, 111, 116, 115] (ado 3 [115, 108, 111, 116] [115, 108, 111, 116] [111, 110, 101] (aat [115, 108, 111, 116] (aset [115, 108, 111, 116] (-1) (aset [116, 104, 114, 101, 97, 100, 115] 4 (aset [115, 108, 111, 116, 115] (N : Int) (aset [111, 110, 101] 1 (aregs [] anew)))))))))))))))))))) [115, 108, 111, 116] w20 BB.out.size (Nat.le_of_ble_eq_true (by kernel_rfl)) (Nat.le_of_ble_eq_true (by kernel_rfl)) (Nat.le_of_ble_eq_true (by kernel_rfl)) K.out).mono ?_
  rintro e w21 hp
  obtain ⟨rfl, k1, b1, z1⟩ := hp
  have K := hid k1; have BB := hid (BB.out.trans b1)
  clear k1 b1 z1
  go_wp2_with fail
  refine (asm_at w.heap.size g (agoto [115, 108, 111, 116] (aif 11 [108, 97, 116, 101, 114] [119, 104, 111] (ado 9 [108, 97, 116, 101, 114] [116, 117, 114, 110] [112, 105, 110] (aif 12 [112, 105, 110] [119, 104, 111] (aword 13 [112, 105, 110] [119, 104, 111] 1 (aif 12 [109, 111, 114, 101] [116, 97, 107, 101] (ado 9 [109, 111, 114, 101] [119, 104, 111] [116, 104, 114, 101, 97, 100, 115] (ado 3 [119, 104, 111] [119, 104, 111] [111, 110, 101] (aat [119, 104, 111] (aset [119, 104, 111] (-1) (aif 12 [116, 117, 114, 110] [115, 108, 111, 116] (aword 13 [116, 117, 114, 110] [115, 108, 111, 116] 5 (aif 12 [109, 111, 114, 101] [110, 111, 110, 101] (ado 9 [109, 111, 114, 101] [115, 108, 111, 116] [115, 108, 111, 116, 115] (ado 3 [115, 108, 111, 116] [115, 108, 111, 116] [111, 110, 101] (aat [115, 108, 111, 116] (aset [115, 108, 111, 116] (-1) (aset [116, 104, 114, 101, 97, 100, 115] 4 (aset [115, 108, 111, 116, 115] (N : Int) (aset [111, 110, 101] 1 (aregs [] anew))))))))))))))))))))) [116, 97, 107, 101] w21 BB.out.size (Nat.le_of_ble_eq_true (by kernel_rfl)) (Nat.le_of_ble_eq_true (by kernel_rfl)) (Nat.le_of_ble_eq_true (by kernel_rfl)) K.out).mono ?_
  rintro e w22 hp
  obtain ⟨rfl, k1, b1, z1⟩ := hp
  have K := hid k1; have BB := hid (BB.out.trans b1)
  clear k1 b1 z1
  go_wp2_with fail
  refine (asm_set w.heap.size g (aat [116, 97, 107, 101] (agoto [115, 108, 111, 116] (aif 11 [108, 97, 116, 101, 114] [119, 104, 111] (ado 9 [108, 97, 116, 101, 114] [116, 117, 114, 110] [112, 105, 110] (aif 12 [112, 105, 110] [119, 104, 111] (aword 13 [112, 105, 110] [119, 104, 111] 1 (aif 12 [109, 111, 114, 101] [116, 97, 107, 101] (ado 9 [109, 111, 114, 101] [119, 104, 111] [116, 104, 114, 101, 97, 100, 115] (ado 3 [119, 104, 111] [119, 104, 111] [111, 110, 101] (aat [119, 104, 111] (aset [119, 104, 111] (-1) (aif 12 [116, 117, 114, 110] [115, 108, 111, 116] (aword 13 [116, 117, 114, 110] [115, 108, 111, 116] 5 (aif 12 [109, 111, 114, 101] [110, 111, 110, 101] (ado 9 [109, 111, 114, 101] [115, 108, 111, 116] [115, 108, 111, 116, 115] (ado 3 [115, 108, 111, 116] [115, 108, 111, 116] [111, 110, 101] (aat [115, 108, 111, 116] (aset [115, 108, 111, 116] (-1) (aset [116, 104, 114, 101, 97, 100, 115] 4 (aset [115, 108, 111, 116, 115] (N : Int) (aset [111, 110, 101] 1 (aregs [] anew)))))))))))))))))))))) [110, 101, 120, 116] 0 w22 BB.out.size (Nat.le_of_ble_eq_true (by kernel_rfl)) (Nat.le_of_ble_eq_true (by kernel_rfl)) (Nat.le_of_ble_eq_true (by kernel_rfl)) K.out).mono ?_
  rintro e w23 hp
  obtain ⟨rfl, k1, b1, z1⟩ := hp
  have K := hid k1; have BB := hid (BB.out.trans b1)
  clear k1 b1 z1
  go_wp2_with fail
  refine (asm_cas w.heap.size g (aset [110, 101, 120, 116] 0 (aat [116, 97, 107, 101] (agoto [115, 108, 111, 116] (aif 11 [108, 97, 116, 101, 114] [119, 104, 111] (ado 9 [108, 97, 116, 101, 114] [116, 117, 114, 110] [112, 105, 110] (aif 12 [112, 105, 110] [119, 104, 111] (aword 13 [112, 105, 110] [119, 104, 111] 1 (aif 12 [109, 111, 114, 101] [116, 97, 107, 101] (ado 9 [109, 111, 114, 101] [119, 104, 111] [116, 104, 114, 101, 97, 100, 115] (ado 3 [119, 104, 111] [119, 104, 111] [111, 110, 101] (aat [119, 104, 111] (aset [119, 104, 111] (-1) (aif 12 [116, 117, 114, 110] [115, 108, 111, 116] (aword 13 [116, 117, 114, 110] [115, 108, 111, 116] 5 (aif 12 [109, 111, 114, 101] [110, 111, 110, 101] (ado 9 [109, 111, 114, 101] [115, 108, 111, 116] [115, 108, 111, 116, 115] (ado 3 [115, 108, 111, 116] [115, 108, 111, 116] [111, 110, 101] (aat [115, 108, 111, 116] (aset [115, 108, 111, 116] (-1) (aset [116, 104, 114, 101, 97, 100, 115] 4 (aset [115, 108, 111, 116, 115] (N : Int) (aset [111, 110, 101] 1 (aregs [] anew))))))))))))))))))))))) [110, 101, 120, 116] [115, 108, 111, 116] 5 [116, 117, 114, 110] w23 BB.out.size (Nat.le_of_ble_eq_true (by kernel_rfl)) (Nat.le_of_ble_eq_true (by kernel_rfl)) (Nat.le_of_ble_eq_true (by kernel_rfl)) (Nat.le_of_ble_eq_true (by kernel_rfl)) (Nat.le_of_ble_eq_true (by kernel_rfl)) K.out).mono ?_
  rintro e w24 hp
  obtain ⟨rfl, k1, b1, z1⟩ := hp
  have K := hid k1; have BB := hid (BB.out.trans b1)
  clear k1 b1 z1
  go_wp2_with fail
  refine (asm_if w.heap.size g (acas [110, 101, 120, 116] [115, 108, 111, 116] 5 [116, 117, 114, 110] (aset [110, 101, 120, 116] 0 (aat [116, 97, 107, 101] (agoto [115, 108, 111, 116] (aif 11 [108, 97, 116, 101, 114] [119, 104, 111] (ado 9 [108, 97, 116, 101, 114] [116, 117, 114, 110] [112, 105, 110] (aif 12 [112, 105, 110] [119, 104, 111] (aword 13 [112, 105, 110] [119, 104, 111] 1 (aif 12 [109, 111, 114, 101] [116, 97, 107, 101] (ado 9 [109, 111, 114, 101] [119, 104, 111] [116, 104, 114, 101, 97, 100, 115] (ado 3 [119, 104, 111] [119, 104, 111] [111, 110, 101] (aat [119, 104, 111] (aset [119, 104, 111] (-1) (aif 12 [116, 117, 114, 110] [115, 108, 111, 116] (aword 13 [116, 117, 114, 110] [115, 108, 111, 116] 5 (aif 12 [109, 111, 114, 101] [110, 111, 110, 101] (ado 9 [109, 111, 114, 101] [115, 108, 111, 116] [115, 108, 111, 116, 115] (ado 3 [115, 108, 111, 116] [115, 108, 111, 116] [111, 110, 101] (aat [115, 108, 111, 116] (aset [115, 108, 111, 116] (-1) (aset [116, 104, 114, 101, 97, 100, 115] 4 (aset [115, 108, 111, 116, 115] (N : Int) (aset [111, 110, 101] 1 (aregs [] anew)))))))))))))))))))))))) 12 [110, 101, 120, 116] [115, 108, 111, 116] w24 BB.out.size (Nat.le_of_ble_eq_true (by kernel_rfl)) (Nat.le_of_ble_eq_true (by kernel_rfl)) (Nat.le_of_ble_eq_true (by kernel_rfl)) (Nat.le_of_ble_eq_true (by kernel_rfl)) K.out).mono ?_
  rintro e w25 hp
  obtain ⟨rfl, k1, b1, z1⟩ := hp
  have K := hid k1; have BB := hid (BB.out.trans b1)
  clear k1 b1 z1
  go_wp2_with fail
  refine (asm_tell w.heap.size g (aif 12 [110, 101, 120, 116] [115, 108, 111, 116] (acas [110, 101, 120, 116] [115, 108, 111, 116] 5 [116, 117, 114, 110] (aset [110, 101, 120, 116] 0 (aat [116, 97, 107, 101] (agoto [115, 108, 111, 116] (aif 11 [108, 97, 116, 101, 114] [119, 104, 111] (ado 9 [108, 97, 116, 101, 114] [116, 117, 114, 110] [112, 105, 110] (aif 12 [112, 105, 110] [119, 104, 111] (aword 13 [112, 105, 110] [119, 104, 111] 1 (aif 12 [109, 111, 114, 101] [116, 97, 107, 101] (ado 9 [109, 111, 114, 101] [119, 104, 111] [116, 104, 114, 101, 97, 100, 115] (ado 3 [119, 104, 111] [119, 104, 111] [111, 110, 101] (aat [119, 104, 111] (aset [119, 104, 111] (-1) (aif 12 [116, 117, 114, 110] [115, 108, 111, 116] (aword 13 [116, 117, 114, 110] [115, 108, 111, 116] 5 (aif 12 [109, 111, 114, 101] [110, 111, 110, 101] (ado 9 [109, 111, 114, 101] [115, 108, 111, 116] [115, 108, 111, 116, 115] (ado 3 [115, 108, 111, 116] [115, 108, 111, 116] [111, 110, 101] (aat [115, 108, 111, 116] (aset [115, 108, 111, 116] (-1) (aset [116, 104, 114, 101, 97, 100, 115] 4 (aset [115, 108, 111, 116, 115] (N : Int) (aset [111, 110, 101] 1 (aregs [] anew))))))))))))))))))))))))) [[115, 108, 111, 116]] w25.heap.size 1 (w25.alloc (.cells #[.string ⟨#[115, 108, 111, 116]⟩] 9)) (Nat.le_trans BB.out.size (bnew (bnil _) _).size) (by decide) rfl (by decide) (Nat.le_of_ble_eq_true (by kernel_rfl)) (Nat.le_of_ble_eq_true (by kernel_rfl)) (K.out.below (bnew (bnil _) _)) (Blk.new w25 _ _)).mono ?_
  rintro e w26 hp
  obtain ⟨rfl, k1, b1, z1⟩ := hp
  have K := hid k1; have BB := hid ((bgo BB.out (bnew (bnil w25) (.cells #[.string ⟨#[115, 108, 111, 116]⟩] 9))).trans b1)
  clear k1 b1 z1
  go_wp2_with fail
  refine (asm_done w.heap.size g (atell [[115, 108, 111, 116]] (aif 12 [110, 101, 120, 116] [115, 108, 111, 116] (acas [110, 101, 120, 116] [115, 108, 111, 116] 5 [116, 117, 114, 110] (aset [110, 101, 120, 116] 0 (aat [116, 97, 107, 101] (agoto [115, 108, 111, 116] (aif 11 [108, 97, 116, 101, 114] [119, 104, 111] (ado 9 [108, 97, 116, 101, 114] [116, 117, 114, 110] [112, 105, 110] (aif 12 [112, 105, 110] [119, 104, 111] (aword 13 [112, 105, 110] [119, 104, 111] 1 (aif 12 [109, 111, 114, 101] [116, 97, 107, 101] (ado 9 [109, 111, 114, 101] [119, 104, 111] [116, 104, 114, 101, 97, 100, 115] (ado 3 [119, 104, 111] [119, 104, 111] [111, 110, 101] (aat [119, 104, 111] (aset [119, 104, 111] (-1) (aif 12 [116, 117, 114, 110] [115, 108, 111, 116] (aword 13 [116, 117, 114, 110] [115, 108, 111, 116] 5 (aif 12 [109, 111, 114, 101] [110, 111, 110, 101] (ado 9 [109, 111, 114, 101] [115, 108, 111, 116] [115, 108, 111, 116, 115] (ado 3 [115, 108, 111, 116] [115, 108, 111, 116] [111, 110, 101] (aat [115, 108, 111, 116] (aset [115, 108, 111, 116] (-1) (aset [116, 104, 114, 101, 97, 100, 115] 4 (aset [115, 108, 111, 116, 115] (N : Int) (aset [111, 110, 101] 1 (aregs [] anew)))))))))))))))))))))))))) w26 BB.out.size (Nat.le_of_ble_eq_true (by kernel_rfl)) K.out).mono ?_
  rintro e w27 hp
  obtain ⟨rfl, k1, b1, z1⟩ := hp
  have K := hid k1; have BB := hid (BB.out.trans b1)
  clear k1 b1 z1
  go_wp2_with fail
  refine (asm_at w.heap.size g (adone (atell [[115, 108, 111, 116]] (aif 12 [110, 101, 120, 116] [115, 108, 111, 116] (acas [110, 101, 120, 116] [115, 108, 111, 116] 5 [116, 117, 114, 110] (aset [110, 101, 120, 116] 0 (aat [116, 97, 107, 101] (agoto [115, 108, 111, 116] (aif 11 [108, 97, 116, 101, 114] [119, 104, 111] (ado 9 [108, 97, 116, 101, 114] [116, 117, 114, 110] [112, 105, 110] (aif 12 [112, 105, 110] [119, 104, 111] (aword 13 [112, 105, 110] [119, 104, 111] 1 (aif 12 [109, 111, 114, 101] [116, 97, 107, 101] (ado 9 [109, 111, 114, 101] [119, 104, 111] [116, 104, 114, 101, 97, 100, 115] (ado 3 [119, 104, 111] [119, 104, 111] [111, 110, 101] (aat [119, 104, 111] (aset [119, 104, 111] (-1) (aif 12 [116, 117, 114, 110] [115, 108, 111, 116] (aword 13 [116, 117, 114, 110] [115, 108, 111, 116] 5 (aif 12 [109, 111, 114, 101] [110, 111, 110, 101] (ado 9 [109, 111, 114, 101] [115, 108, 111, 116] [115, 108, 111, 116, 115] (ado 3 [115, 108, 111, 116] [115, 108, 111, 116] [111, 110, 101] (aat [115, 108, 111, 116] (aset [115, 108, 111, 116] (-1) (aset [116, 104, 114, 101, 97, 100, 115] 4 (aset [115, 108, 111, 116, 115] (N : Int) (aset [111, 110, 101] 1 (aregs [] anew))))))))))))))))))))))))))) [110, 111, 110, 101] w27 BB.out.size (Nat.le_of_ble_eq_true (by kernel_rfl)) (Nat.le_of_ble_eq_true (by kernel_rfl)) (Nat.le_of_ble_eq_true (by kernel_rfl)) K.out).mono ?_
  rintro e w28 hp
  obtain ⟨rfl, k1, b1, z1⟩ := hp
  have K := hid k1; have BB := hid (BB.out.trans b1)
  clear k1 b1 z1
  go_wp2_with fail
  refine (asm_set w.heap.size g (aat [110, 111, 110, 101] (adone (atell [[115, 108, 111, 116]] (aif 12 [110, 101, 120, 116] [115, 108, 111, 116] (acas [110, 101, 120, 116] [115, 108, 111, 116] 5 [116, 117, 114, 110] (aset [110, 101, 120, 116] 0 (aat [116, 97, 107, 101] (agoto [115, 108, 111, 116] (aif 11 [108, 97, 116, 101, 114] [119, 104, 111] (ado 9 [108, 97, 116, 101, 114] [116, 117, 114, 110] [112, 105, 110] (aif 12 [112, 105, 110] [119, 104, 111] (aword 13 [112, 105, 110] [119, 104, 111] 1 (aif 12 [109, 111, 114, 101] [116, 97, 107, 101] (ado 9 [109, 111, 114, 101] [119, 104, 111] [116, 104, 114, 101, 97, 100, 115] (ado 3 [119, 104, 111] [119, 104, 111] [111, 110, 101] (aat [119, 104, 111] (aset [119, 104, 111] (-1) (aif 12 [116, 117, 114, 110] [115, 108, 111, 116] (aword 13 [116, 117, 114, 110] [115, 108, 111, 116] 5 (aif 12 [109, 111, 114, 101] [110, 111, 110, 101] (ado 9 [109, 111, 114, 101] [115, 108, 111, 116] [115, 108, 111, 116, 115] (ado 3 [115, 108, 111, 116] [115, 108, 111, 116] [111, 110, 101] (aat [115, 108, 111, 116] (aset [115, 108, 111, 116] (-1) (aset [116, 104, 114, 101, 97, 100, 115] 4 (aset [115, 108, 111, 116, 115] (N : Int) (aset [111, 110, 101] 1 (aregs [] anew)))))))))))))))))))))))))))) [115, 108, 111, 116] (-1) w28 BB.out.size (Nat.le_of_ble_eq_true (by kernel_rfl)) (Nat.le_of_ble_eq_true (by kernel_rfl)) (Nat.le_of_ble_eq_true (by kernel_rfl)) K.out).mono ?_
  rintro e w29 hp
  obtain ⟨rfl, k1, b1, z1⟩ := hp
  have K := hid k1; have BB := hid (BB.out.trans b1)
  clear k1 b1 z1
  go_wp2_with fail
  refine (asm_tell w.heap.size g (aset [115, 108, 111, 116] (-1) (aat [110, 111, 110, 101] (adone (atell [[115, 108, 111, 116]] (aif 12 [110, 101, 120, 116] [115, 108, 111, 116] (acas [110, 101, 120, 116] [115, 108, 111, 116] 5 [116, 117, 114, 110] (aset [110, 101, 120, 116] 0 (aat [116, 97, 107, 101] (agoto [115, 108, 111, 116] (aif 11 [108, 97, 116, 101, 114] [119, 104, 111] (ado 9 [108, 97, 116, 101, 114] [116, 117, 114, 110] [112, 105, 110] (aif 12 [112, 105, 110] [119, 104, 111] (aword 13 [112, 105, 110] [119, 104, 111] 1 (aif 12 [109, 111, 114, 101] [116, 97, 107, 101] (ado 9 [109, 111, 114, 101] [119, 104, 111] [116, 104, 114, 101, 97, 100, 115] (ado 3 [119, 104, 111] [119, 104, 111] [111, 110, 101] (aat [119, 104, 111] (aset [119, 104, 111] (-1) (aif 12 [116, 117, 114, 110] [115, 108, 111, 116] (aword 13 [116, 117, 114, 110] [115, 108, 111, 116] 5 (aif 12 [109, 111, 114, 101] [110, 111, 110, 101] (ado 9 [109, 111, 114, 101] [115, 108, 111, 116] [115, 108, 111, 116, 115] (ado 3 [115, 108, 111, 116] [115, 108, 111, 116] [111, 110, 101] (aat [115, 108, 111, 116] (aset [115, 108, 111, 116] (-1) (aset [116, 104, 114, 101, 97, 100, 115] 4 (aset [115, 108, 111, 116, 115] (N : Int) (aset [111, 110, 101] 1 (aregs [] anew))))))))))))))))))))))))))))) [[115, 108, 111, 116]] w29.heap.size 1 (w29.alloc (.cells #[.string ⟨#[115, 108, 111, 116]⟩] 9)) (Nat.le_trans BB.out.size (bnew (bnil _) _).size) (by decide) rfl (by decide) (Nat.le_of_ble_eq_true (by kernel_rfl)) (Nat.le_of_ble_eq_true (by kernel_rfl)) (K.out.below (bnew (bnil _) _)) (Blk.new w29 _ _)).mono ?_
  rintro e w30 hp
  obtain ⟨rfl, k1, b1, z1⟩ := hp
  have K := hid k1; have BB := hid ((bgo BB.out (bnew (bnil w29) (.cells #[.string ⟨#[115, 108, 111, 116]⟩] 9))).trans b1)
  clear k1 b1 z1
  go_wp2_with fail
  refine (asm_ops w.heap.size g (atell [[115, 108, 111, 116]] (aset [115, 108, 111, 116] (-1) (aat [110, 111, 110, 101] (adone (atell [[115, 108, 111, 116]] (aif 12 [110, 101, 120, 116] [115, 108, 111, 116] (acas [110, 101, 120, 116] [115, 108, 111, 116] 5 [116, 117, 114, 110] (aset [110, 101, 120, 116] 0 (aat [116, 97, 107, 101] (agoto [115, 108, 111, 116] (aif 11 [108, 97, 116, 101, 114] [119, 104, 111] (ado 9 [108, 97, 116, 101, 114] [116, 117, 114, 110] [112, 105, 110] (aif 12 [112, 105, 110] [119, 104, 111] (aword 13 [112, 105, 110] [119, 104, 111] 1 (aif 12 [109, 111, 114, 101] [116, 97, 107, 101] (ado 9 [109, 111, 114, 101] [119, 104, 111] [116, 104, 114, 101, 97, 100, 115] (ado 3 [119, 104, 111] [119, 104, 111] [111, 110, 101] (aat [119, 104, 111] (aset [119, 104, 111] (-1) (aif 12 [116, 117, 114, 110] [115, 108, 111, 116] (aword 13 [116, 117, 114, 110] [115, 108, 111, 116] 5 (aif 12 [109, 111, 114, 101] [110, 111, 110, 101] (ado 9 [109, 111, 114, 101] [115, 108, 111, 116] [115, 108, 111, 116, 115] (ado 3 [115, 108, 111, 116] [115, 108, 111, 116] [111, 110, 101] (aat [115, 108, 111, 116] (aset [115, 108, 111, 116] (-1) (aset [116, 104, 114, 101, 97, 100, 115] 4 (aset [115, 108, 111, 116, 115] (N : Int) (aset [111, 110, 101] 1 (aregs [] anew)))))))))))))))))))))))))))))) w30 BB.out.size (gotos_in (by kernel_rfl)) (Nat.le_of_ble_eq_true (by kernel_rfl)) (Nat.le_of_ble_eq_true (by kernel_rfl)) K.out).mono ?_
  rintro e w99 hp
  have HC := hid (CodePost.of (code := efreeCode N) BB.out hp (by kernel_rfl))
  obtain ⟨v, rfl, ho⟩ := HC.out
  clear hp
  go_wp2
  go_ret2
  exact ⟨v, rfl, ho⟩
theorem epin_sh : ∀ o ∈ epinCode, OpSh epinCode.length o := by
  intro o ho
  rw [show epinCode.length = 4 from rfl]
  simp only [epinCode, List.mem_cons, List.not_mem_nil, or_false] at ho
  repeat' (rcases ho with rfl | ho)
  all_goals first | exact ⟨by decide, by decide, by decide, by decide, by decide⟩ | (subst ho; exact ⟨by decide, by decide, by decide, by decide, by decide⟩)
theorem eunpin_sh : ∀ o ∈ eunpinCode, OpSh eunpinCode.length o := by
  intro o ho
  rw [show eunpinCode.length = 1 from rfl]
  simp only [eunpinCode, List.mem_cons, List.not_mem_nil, or_false] at ho
  repeat' (rcases ho with rfl | ho)
  all_goals first | exact ⟨by decide, by decide, by decide, by decide, by decide⟩ | (subst ho; exact ⟨by decide, by decide, by decide, by decide, by decide⟩)
theorem eretire_sh : ∀ o ∈ eretireCode, OpSh eretireCode.length o := by
  intro o ho
  rw [show eretireCode.length = 7 from rfl]
  simp only [eretireCode, List.mem_cons, List.not_mem_nil, or_false] at ho
  repeat' (rcases ho with rfl | ho)
  all_goals first | exact ⟨by decide, by decide, by decide, by decide, by decide⟩ | (subst ho; exact ⟨by decide, by decide, by decide, by decide, by decide⟩)
theorem efree_sh (N : Nat) : ∀ o ∈ efreeCode N, OpSh (efreeCode N).length o := by
  intro o ho
  rw [show (efreeCode N).length = 25 from rfl]
  simp only [efreeCode, List.mem_cons, List.not_mem_nil, or_false] at ho
  repeat' (rcases ho with rfl | ho)
  all_goals first | exact ⟨by decide, by decide, by decide, by decide, by decide⟩ | exact ⟨by simp, by simp, by simp, by simp, by simp⟩ | (subst ho; exact ⟨by decide, by decide, by decide, by decide, by decide⟩)
theorem mk_intsL (w : World) (n : Nat) (hn : n ≤ 1000) : ∃ cs : Array Value, cs.toList = (List.replicate n (0 : Int)).flatMap gI ∧ (Instr.makeSlice 25 (.int .i64 (n : Int)) (.int .i64 (n : Int))).run Tryd.prog w = .ok (.slice (some ⟨w.heap.size, 0, none⟩) n n) (w.alloc (.cells cs 3)) := by
  have h := run_make_row' (P := Tryd.prog) 25 3 (.int .i64 0) 8 Tryd.underlying25 (by kernel_rfl) rfl .i64 .i64 n (by omega) (by omega) w
  refine ⟨_, ?_, h⟩
  rw [Go.toList_madeCells_one]
  clear h hn
  induction n with
  | zero => rfl
  | succ n ih => rw [List.replicate_succ, List.replicate_succ, List.flatMap_cons, ← ih]; rfl
set_option maxHeartbeats 1000000 in
theorem epoch_words (n : Nat) (w : World) (h1 : 1 ≤ n) (h8 : n ≤ 8) : Calls Tryd.prog 32 #[.int .i64 4, .int .i64 (n : Int)] w fun e w' => ∃ v, e = .returned (.tuple #[v, .int .i64 0]) ∧ Ow w w' 3 1 gI v (List.replicate (n + 5) 0) := by
  obtain ⟨cs, hcs, hmk⟩ := mk_intsL w (n + 5) (by omega)
  rw [show ((n + 5 : Nat) : Int) = 5 + (n : Int) by omega] at hmk
  have HCS := hid hcs
  clear hcs
  go_enter Tryd.func32, Tryd.ntmps32
  go_wp2_with fail
  refine (epoch_may n w h1 h8).mono ?_
  rintro e w' ⟨rfl, rfl⟩
  go_wp2
  go_ret2
  have hl : cs.size = n + 5 := by rw [← Array.length_toList, HCS.out, flatMap_len gI 1 (fun _ => rfl)]; simp
  refine ⟨_, rfl, ⟨⟨by simp, .inr ⟨w.heap.size, n + 5, cs, by rw [List.length_replicate]; rfl, Nat.le_refl _, Blk.new w _ _, by simp, by unfold maxLen; omega, by rw [hl]; simp, ?_⟩⟩, bnew (bnil w) _⟩⟩
  rw [HCS.out, List.take_of_length_le]
  · rw [flatMap_len gI 1 (fun _ => rfl)]; simp
end Go.Proofs.YtabmkjokeeakdaaDoor
