/-
  Codes of package queue: their walks. Written by gen_codesq.py.
-/
import Derived.Test.YtbcjgnigdddlkaaDoorCodes1
import Derived.Test.YtbcjgnigdddlkaaDoorAsm4
import Derived.Test.YtbcjgnigdddlkaaDoorQStep
namespace Go.Proofs.YtbcjgnigdddlkaaDoor
open Go.RowKit Go.Maps
set_option linter.unusedVariables false

/-- a code, and no error -/
def CodePost2 (w : World) (code : List Op5) (e : Ending) (w' : World) : Prop := ∃ v, e = .returned (.tuple #[v, .int .i64 0]) ∧ Ow w w' 71 5 gO v code
theorem gotos_in {a : AC} (h : (a.gotos.all fun x => Nat.blt x.1 a.ops.length && Nat.ble x.2.length 100) = true) : ∀ x ∈ a.gotos, x.1 < a.ops.length ∧ x.2.length ≤ 100 := by
  intro x hx
  have h1 := List.all_eq_true.1 h x hx
  rw [Bool.and_eq_true] at h1
  exact ⟨Nat.le_of_ble_eq_true h1.1, Nat.le_of_ble_eq_true h1.2⟩
theorem queue_may (N : Nat) (w : World) (h1 : 1 ≤ N) (h8 : N ≤ 8) : Calls Tryd.prog 86 #[.int .i64 (N : Int)] w fun e w' => e = .returned (.bool true) ∧ w = w' := by
  have i1 : (1 : Int) ≤ (N : Int) := by omega
  have i8 : (N : Int) ≤ 8 := by omega
  go_enter Tryd.func86, Tryd.ntmps86
  go_wp2
  go_ret
  exact ⟨rfl, rfl⟩
set_option maxHeartbeats 1000000 in
theorem queue_put (N : Nat) (w : World) (h1 : 1 ≤ N) (h8 : N ≤ 8) : Calls Tryd.prog 55 #[.int .i64 (N : Int)] w fun e w' => CodePost2 w (qputCode N) e w' := by
  go_enter Tryd.func55, Tryd.ntmps55
  go_wp2_with fail
  refine (queue_may N w h1 h8).mono ?_
  rintro e w' ⟨rfl, rfl⟩
  go_wp2_with fail
  refine (asm_new w.heap.size [[118]] (some ⟨w.heap.size, 0, none⟩) 1 1 (w.alloc (.cells #[.string ⟨#[118]⟩] 9)) (bnew (bnil w) _).size (by decide) rfl (by decide) (.inr ⟨_, rfl, Blk.new w _ _⟩)).mono ?_
  rintro e w1 hp
  obtain ⟨g, rfl, k1, b1, z1⟩ := hp
  have K := hid k1; have BB := hid ((bnew (bnil w) (.cells #[.string ⟨#[118]⟩] 9)).trans b1)
  clear k1 b1 z1
  go_wp2_with fail
  refine (asm_set w.heap.size g (aregs [[118]] anew) [111, 110, 101] 1 w1 BB.out.size (Nat.le_of_ble_eq_true (by kernel_rfl)) (Nat.le_of_ble_eq_true (by kernel_rfl)) (Nat.le_of_ble_eq_true (by kernel_rfl)) K.out).mono ?_
  rintro e w2 hp
  obtain ⟨rfl, k1, b1, z1⟩ := hp
  have K := hid k1; have BB := hid (BB.out.trans b1)
  clear k1 b1 z1
  go_wp2_with fail
  refine (asm_set w.heap.size g (aset [111, 110, 101] 1 (aregs [[118]] anew)) [119, 105, 100, 101] 64 w2 BB.out.size (Nat.le_of_ble_eq_true (by kernel_rfl)) (Nat.le_of_ble_eq_true (by kernel_rfl)) (Nat.le_of_ble_eq_true (by kernel_rfl)) K.out).mono ?_
  rintro e w3 hp
  obtain ⟨rfl, k1, b1, z1⟩ := hp
  have K := hid k1; have BB := hid (BB.out.trans b1)
  clear k1 b1 z1
  go_wp2_with fail
  refine (asm_set w.heap.size g (aset [119, 105, 100, 101] 64 (aset [111, 110, 101] 1 (aregs [[118]] anew))) [99, 111, 117, 110, 116] 16 w3 BB.out.size (Nat.le_of_ble_eq_true (by kernel_rfl)) (Nat.le_of_ble_eq_true (by kernel_rfl)) (Nat.le_of_ble_eq_true (by kernel_rfl)) K.out).mono ?_
  rintro e w4 hp
  obtain ⟨rfl, k1, b1, z1⟩ := hp
  have K := hid k1; have BB := hid (BB.out.trans b1)
  clear k1 b1 z1
  go_wp2_with fail
  refine (asm_set w.heap.size g (aset [99, 111, 117, 110, 116] 16 (aset [119, 105, 100, 101] 64 (aset [111, 110, 101] 1 (aregs [[118]] anew)))) [97, 108, 108] (N : Int) w4 BB.out.size (Nat.le_of_ble_eq_true (by kernel_rfl)) (Nat.le_of_ble_eq_true (by kernel_rfl)) (Nat.le_of_ble_eq_true (by kernel_rfl)) K.out).mono ?_
  rintro e w5 hp
  obtain ⟨rfl, k1, b1, z1⟩ := hp
  have K := hid k1; have BB := hid (BB.out.trans b1)
  clear k1 b1 z1
  go_wp2_with fail
  refine (asm_at w.heap.size g (aset [97, 108, 108] (N : Int) (aset [99, 111, 117, 110, 116] 16 (aset [119, 105, 100, 101] 64 (aset [111, 110, 101] 1 (aregs [[118]] anew))))) [97, 103, 97, 105, 110] w5 BB.out.size (Nat.le_of_ble_eq_true (by kernel_rfl)) (Nat.le_of_ble_eq_true (by kernel_rfl)) (Nat.le_of_ble_eq_true (by kernel_rfl)) K.out).mono ?_
  rintro e w6 hp
  obtain ⟨rfl, k1, b1, z1⟩ := hp
  have K := hid k1; have BB := hid (BB.out.trans b1)
  clear k1 b1 z1
  go_wp2_with fail
  refine (asm_word w.heap.size g (aat [97, 103, 97, 105, 110] (aset [97, 108, 108] (N : Int) (aset [99, 111, 117, 110, 116] 16 (aset [119, 105, 100, 101] 64 (aset [111, 110, 101] 1 (aregs [[118]] anew)))))) 13 [110, 111, 119] [98, 97, 115, 101] 0 w6 BB.out.size (Nat.le_of_ble_eq_true (by kernel_rfl)) (Nat.le_of_ble_eq_true (by kernel_rfl)) (Nat.le_of_ble_eq_true (by kernel_rfl)) (Nat.le_of_ble_eq_true (by kernel_rfl)) K.out).mono ?_
  rintro e w7 hp
  obtain ⟨rfl, k1, b1, z1⟩ := hp
  have K := hid k1; have BB := hid (BB.out.trans b1)
  clear k1 b1 z1
  go_wp2_with fail
  refine (asm_do w.heap.size g (aword 13 [110, 111, 119] [98, 97, 115, 101] 0 (aat [97, 103, 97, 105, 110] (aset [97, 108, 108] (N : Int) (aset [99, 111, 117, 110, 116] 16 (aset [119, 105, 100, 101] 64 (aset [111, 110, 101] 1 (aregs [[118]] anew))))))) 7 [110] [110, 111, 119] [99, 111, 117, 110, 116] w7 BB.out.size (Nat.le_of_ble_eq_true (by kernel_rfl)) (Nat.le_of_ble_eq_true (by kernel_rfl)) (Nat.le_of_ble_eq_true (by kernel_rfl)) (Nat.le_of_ble_eq_true (by kernel_rfl)) (Nat.le_of_ble_eq_true (by kernel_rfl)) K.out).mono ?_
  rintro e w8 hp
  obtain ⟨rfl, k1, b1, z1⟩ := hp
  have K := hid k1; have BB := hid (BB.out.trans b1)
  clear k1 b1 z1
  go_wp2_with fail
  refine (asm_do w.heap.size g (ado 7 [110] [110, 111, 119] [99, 111, 117, 110, 116] (aword 13 [110, 111, 119] [98, 97, 115, 101] 0 (aat [97, 103, 97, 105, 110] (aset [97, 108, 108] (N : Int) (aset [99, 111, 117, 110, 116] 16 (aset [119, 105, 100, 101] 64 (aset [111, 110, 101] 1 (aregs [[118]] anew)))))))) 8 [102, 117, 108, 108] [110] [97, 108, 108] w8 BB.out.size (Nat.le_of_ble_eq_true (by kernel_rfl)) (Nat.le_of_ble_eq_true (by kernel_rfl)) (Nat.le_of_ble_eq_true (by kernel_rfl)) (Nat.le_of_ble_eq_true (by kernel_rfl)) (Nat.le_of_ble_eq_true (by kernel_rfl)) K.out).mono ?_
  rintro e w9 hp
  obtain ⟨rfl, k1, b1, z1⟩ := hp
  have K := hid k1; have BB := hid (BB.out.trans b1)
  clear k1 b1 z1
  go_wp2_with fail
  refine (asm_if w.heap.size g (ado 8 [102, 117, 108, 108] [110] [97, 108, 108] (ado 7 [110] [110, 111, 119] [99, 111, 117, 110, 116] (aword 13 [110, 111, 119] [98, 97, 115, 101] 0 (aat [97, 103, 97, 105, 110] (aset [97, 108, 108] (N : Int) (aset [99, 111, 117, 110, 116] 16 (aset [119, 105, 100, 101] 64 (aset [111, 110, 101] 1 (aregs [[118]] anew))))))))) 11 [102, 117, 108, 108] [110, 111] w9 BB.out.size (Nat.le_of_ble_eq_true (by kernel_rfl)) (Nat.le_of_ble_eq_true (by kernel_rfl)) (Nat.le_of_ble_eq_true (by kernel_rfl)) (Nat.le_of_ble_eq_true (by kernel_rfl)) K.out).mono ?_
  rintro e w10 hp
  obtain ⟨rfl, k1, b1, z1⟩ := hp
  have K := hid k1; have BB := hid (BB.out.trans b1)
  clear k1 b1 z1
  go_wp2_with fail
  refine (asm_do w.heap.size g (aif 11 [102, 117, 108, 108] [110, 111] (ado 8 [102, 117, 108, 108] [110] [97, 108, 108] (ado 7 [110] [110, 111, 119] [99, 111, 117, 110, 116] (aword 13 [110, 111, 119] [98, 97, 115, 101] 0 (aat [97, 103, 97, 105, 110] (aset [97, 108, 108] (N : Int) (aset [99, 111, 117, 110, 116] 16 (aset [119, 105, 100, 101] 64 (aset [111, 110, 101] 1 (aregs [[118]] anew)))))))))) 5 [109, 111, 114, 101] [118] [99, 111, 117, 110, 116] w10 BB.out.size (Nat.le_of_ble_eq_true (by kernel_rfl)) (Nat.le_of_ble_eq_true (by kernel_rfl)) (Nat.le_of_ble_eq_true (by kernel_rfl)) (Nat.le_of_ble_eq_true (by kernel_rfl)) (Nat.le_of_ble_eq_true (by kernel_rfl)) K.out).mono ?_
  rintro e w11 hp
  obtain ⟨rfl, k1, b1, z1⟩ := hp
  have K := hid k1; have BB := hid (BB.out.trans b1)
  clear k1 b1 z1
  go_wp2_with fail
  refine (asm_at w.heap.size g (ado 5 [109, 111, 114, 101] [118] [99, 111, 117, 110, 116] (aif 11 [102, 117, 108, 108] [110, 111] (ado 8 [102, 117, 108, 108] [110] [97, 108, 108] (ado 7 [110] [110, 111, 119] [99, 111, 117, 110, 116] (aword 13 [110, 111, 119] [98, 97, 115, 101] 0 (aat [97, 103, 97, 105, 110] (aset [97, 108, 108] (N : Int) (aset [99, 111, 117, 110, 116] 16 (aset [119, 105, 100, 101] 64 (aset [111, 110, 101] 1 (aregs [[118]] anew))))))))))) [117, 112] w11 BB.out.size (Nat.le_of_ble_eq_true (by kernel_rfl)) (Nat.le_of_ble_eq_true (by kernel_rfl)) (Nat.le_of_ble_eq_true (by kernel_rfl)) K.out).mono ?_
  rintro e w12 hp
  obtain ⟨rfl, k1, b1, z1⟩ := hp
  have K := hid k1; have BB := hid (BB.out.trans b1)
  clear k1 b1 z1
  go_wp2_with fail
  refine (asm_if w.heap.size g (aat [117, 112] (ado 5 [109, 111, 114, 101] [118] [99, 111, 117, 110, 116] (aif 11 [102, 117, 108, 108] [110, 111] (ado 8 [102, 117, 108, 108] [110] [97, 108, 108] (ado 7 [110] [110, 111, 119] [99, 111, 117, 110, 116] (aword 13 [110, 111, 119] [98, 97, 115, 101] 0 (aat [97, 103, 97, 105, 110] (aset [97, 108, 108] (N : Int) (aset [99, 111, 117, 110, 116] 16 (aset [119, 105, 100, 101] 64 (aset [111, 110, 101] 1 (aregs [[118]] anew)))))))))))) 12 [110] [116, 104, 101, 114, 101] w12 BB.out.size (Nat.le_of_ble_eq_true (by kernel_rfl)) (Nat.le_of_ble_eq_true (by kernel_rfl)) (Nat.le_of_ble_eq_true (by kernel_rfl)) (Nat.le_of_ble_eq_true (by kernel_rfl)) K.out).mono ?_
  rintro e w13 hp
  obtain ⟨rfl, k1, b1, z1⟩ := hp
  have K := hid k1; have BB := hid (BB.out.trans b1)
  clear k1 b1 z1
  go_wp2_with fail
  refine (asm_do w.heap.size g (aif 12 [110] [116, 104, 101, 114, 101] (aat [117, 112] (ado 5 [109, 111, 114, 101] [118] [99, 111, 117, 110, 116] (aif 11 [102, 117, 108, 108] [110, 111] (ado 8 [102, 117, 108, 108] [110] [97, 108, 108] (ado 7 [110] [110, 111, 119] [99, 111, 117, 110, 116] (aword 13 [110, 111, 119] [98, 97, 115, 101] 0 (aat [97, 103, 97, 105, 110] (aset [97, 108, 108] (N : Int) (aset [99, 111, 117, 110, 116] 16 (aset [119, 105, 100, 101] 64 (aset [111, 110, 101] 1 (aregs [[118]] anew))))))))))))) 5 [109, 111, 114, 101] [109, 111, 114, 101] [119, 105, 100, 101] w13 BB.out.size (Nat.le_of_ble_eq_true (by kernel_rfl)) (Nat.le_of_ble_eq_true (by kernel_rfl)) (Nat.le_of_ble_eq_true (by kernel_rfl)) (Nat.le_of_ble_eq_true (by kernel_rfl)) (Nat.le_of_ble_eq_true (by kernel_rfl)) K.out).mono ?_
  rintro e w14 hp
  obtain ⟨rfl, k1, b1, z1⟩ := hp
  have K := hid k1; have BB := hid (BB.out.trans b1)
  clear k1 b1 z1
  go_wp2_with fail
  refine (asm_do w.heap.size g (ado 5 [109, 111, 114, 101] [109, 111, 114, 101] [119, 105, 100, 101] (aif 12 [110] [116, 104, 101, 114, 101] (aat [117, 112] (ado 5 [109, 111, 114, 101] [118] [99, 111, 117, 110, 116] (aif 11 [102, 117, 108, 108] [110, 111] (ado 8 [102, 117, 108, 108] [110] [97, 108, 108] (ado 7 [110] [110, 111, 119] [99, 111, 117, 110, 116] (aword 13 [110, 111, 119] [98, 97, 115, 101] 0 (aat [97, 103, 97, 105, 110] (aset [97, 108, 108] (N : Int) (aset [99, 111, 117, 110, 116] 16 (aset [119, 105, 100, 101] 64 (aset [111, 110, 101] 1 (aregs [[118]] anew)))))))))))))) 4 [110] [110] [111, 110, 101] w14 BB.out.size (Nat.le_of_ble_eq_true (by kernel_rfl)) (Nat.le_of_ble_eq_true (by kernel_rfl)) (Nat.le_of_ble_eq_true (by kernel_rfl)) (Nat.le_of_ble_eq_true (by kernel_rfl)) (Nat.le_of_ble_eq_true (by kernel_rfl)) K.out).mono ?_
  rintro e w15 hp
  obtain ⟨rfl, k1, b1, z1⟩ := hp
  have K := hid k1; have BB := hid (BB.out.trans b1)
  clear k1 b1 z1
  go_wp2_with fail
  refine (asm_goto w.heap.size g (ado 4 [110] [110] [111, 110, 101] (ado 5 [109, 111, 114, 101] [109, 111, 114, 101] [119, 105, 100, 101] (aif 12 [110] [116, 104, 101, 114, 101] (aat [117, 112] (ado 5 [109, 111, 114, 101] [118] [99, 111, 117, 110, 116] (aif 11 [102, 117, 108, 108] [110, 111] (ado 8 [102, 117, 108, 108] [110] [97, 108, 108] (ado 7 [110] [110, 111, 119] [99, 111, 117, 110, 116] (aword 13 [110, 111, 119] [98, 97, 115, 101] 0 (aat [97, 103, 97, 105, 110] (aset [97, 108, 108] (N : Int) (aset [99, 111, 117, 110, 116] 16 (aset [119, 105, 100, 101] 64 (aset [111, 110, 101] 1 (aregs [[118]] anew))))))))))))))) [117, 112] w15 BB.out.size (Nat.le_of_ble_eq_true (by kernel_rfl)) (Nat.le_of_ble_eq_true (by kernel_rfl)) (Nat.le_of_ble_eq_true (by kernel_rfl)) K.out).mono ?_
  rintro e w16 hp
  obtain ⟨rfl, k1, b1, z1⟩ := hp
  have K := hid k1; have BB := hid (BB.out.trans b1)
  clear k1 b1 z1
  go_wp2_with fail
  refine (asm_at w.heap.size g (agoto [117, 112] (ado 4 [110] [110] [111, 110, 101] (ado 5 [109, 111, 114, 101] [109, 111, 114, 101] [119, 105, 100, 101] (aif 12 [110] [116, 104, 101, 114, 101] (aat [117, 112] (ado 5 [109, 111, 114, 101] [118] [99, 111, 117, 110, 116] (aif 11 [102, 117, 108, 108] [110, 111] (ado 8 [102, 117, 108, 108] [110] [97, 108, 108] (ado 7 [110] [110, 111, 119] [99, 111, 117, 110, 116] (aword 13 [110, 111, 119] [98, 97, 115, 101] 0 (aat [97, 103, 97, 105, 110] (aset [97, 108, 108] (N : Int) (aset [99, 111, 117, 110, 116] 16 (aset [119, 105, 100, 101] 64 (aset [111, 110, 101] 1 (aregs [[118]] anew)))))))))))))))) [116, 104, 101, 114, 101] w16 BB.out.size (Nat.le_of_ble_eq_true (by kernel_rfl)) (Nat.le_of_ble_eq_true (by kernel_rfl)) (Nat.le_of_ble_eq_true (by kernel_rfl)) K.out).mono ?_
  rintro e w17 hp
  obtain ⟨rfl, k1, b1, z1⟩ := hp
  have K := hid k1; have BB := hid (BB.out.trans b1)
  clear k1 b1 z1
  go_wp2_with fail
  refine (asm_do w.heap.size g (aat [116, 104, 101, 114, 101] (agoto [117, 112] (ado 4 [110] [110] [111, 110, 101] (ado 5 [109, 111, 114, 101] [109, 111, 114, 101] [119, 105, 100, 101] (aif 12 [110] [116, 104, 101, 114, 101] (aat [117, 112] (ado 5 [109, 111, 114, 101] [118] [99, 111, 117, 110, 116] (aif 11 [102, 117, 108, 108] [110, 111] (ado 8 [102, 117, 108, 108] [110] [97, 108, 108] (ado 7 [110] [110, 111, 119] [99, 111, 117, 110, 116] (aword 13 [110, 111, 119] [98, 97, 115, 101] 0 (aat [97, 103, 97, 105, 110] (aset [97, 108, 108] (N : Int) (aset [99, 111, 117, 110, 116] 16 (aset [119, 105, 100, 101] 64 (aset [111, 110, 101] 1 (aregs [[118]] anew))))))))))))))))) 3 [110, 101, 120, 116] [110, 111, 119] [109, 111, 114, 101] w17 BB.out.size (Nat.le_of_ble_eq_true (by kernel_rfl)) (Nat.le_of_ble_eq_true (by kernel_rfl)) (Nat.le_of_ble_eq_true (by kernel_rfl)) (Nat.le_of_ble_eq_true (by kernel_rfl)) (Nat.le_of_ble_eq_true (by kernel_rfl)) K.out).mono ?_
  rintro e w18 hp
  obtain ⟨rfl, k1, b1, z1⟩ := hp
  have K := hid k1; have BB := hid (BB.out.trans b1)
  clear k1 b1 z1
  go_wp2_with fail
  refine (asm_do w.heap.size g (ado 3 [110, 101, 120, 116] [110, 111, 119] [109, 111, 114, 101] (aat [116, 104, 101, 114, 101] (agoto [117, 112] (ado 4 [110] [110] [111, 110, 101] (ado 5 [109, 111, 114, 101] [109, 111, 114, 101] [119, 105, 100, 101] (aif 12 [110] [116, 104, 101, 114, 101] (aat [117, 112] (ado 5 [109, 111, 114, 101] [118] [99, 111, 117, 110, 116] (aif 11 [102, 117, 108, 108] [110, 111] (ado 8 [102, 117, 108, 108] [110] [97, 108, 108] (ado 7 [110] [110, 111, 119] [99, 111, 117, 110, 116] (aword 13 [110, 111, 119] [98, 97, 115, 101] 0 (aat [97, 103, 97, 105, 110] (aset [97, 108, 108] (N : Int) (aset [99, 111, 117, 110, 116] 16 (aset [119, 105, 100, 101] 64 (aset [111, 110, 101] 1 (aregs [[118]] anew)))))))))))))))))) 3 [110, 101, 120, 116] [110, 101, 120, 116] [111, 110, 101] w18 BB.out.size (Nat.le_of_ble_eq_true (by kernel_rfl)) (Nat.le_of_ble_eq_true (by kernel_rfl)) (Nat.le_of_ble_eq_true (by kernel_rfl)) (Nat.le_of_ble_eq_true (by kernel_rfl)) (Nat.le_of_ble_eq_true (by kernel_rfl)) K.out).mono ?_
  rintro e w19 hp
  obtain ⟨rfl, k1, b1, z1⟩ := hp
  have K := hid k1; have BB := hid (BB.out.trans b1)
  clear k1 b1 z1
  go_wp2_with fail
  refine (asm_cas w.heap.size g (ado 3 [110, 101, 120, 116] [110, 101, 120, 116] [111, 110, 101] (ado 3 [110, 101, 120, 116] [110, 111, 119] [109, 111, 114, 101] (aat [116, 104, 101, 114, 101] (agoto [117, 112] (ado 4 [110] [110] [111, 110, 101] (ado 5 [109, 111, 114, 101] [109, 111, 114, 101] [119, 105, 100, 101] (aif 12 [110] [116, 104, 101, 114, 101] (aat [117, 112] (ado 5 [109, 111, 114, 101] [118] [99, 111, 117, 110, 116] (aif 11 [102, 117, 108, 108] [110, 111] (ado 8 [102, 117, 108, 108] [110] [97, 108, 108] (ado 7 [110] [110, 111, 119] [99, 111, 117, 110, 116] (aword 13 [110, 111, 119] [98, 97, 115, 101] 0 (aat [97, 103, 97, 105, 110] (aset [97, 108, 108] (N : Int) (aset [99, 111, 117, 110, 116] 16 (aset [119, 105, 100, 101] 64 (aset [111, 110, 101] 1 (aregs [[118]] anew))))))))))))))))))) [110, 101, 120, 116] [98, 97, 115, 101] 0 [110, 111, 119] w19 BB.out.size (Nat.le_of_ble_eq_true (by kernel_rfl)) (Nat.le_of_ble_eq_true (by kernel_rfl)) (Nat.le_of_ble_eq_true (by kernel_rfl)) (Nat.le_of_ble_eq_true (by kernel_rfl)) (Nat.le_of_ble_eq_true (by kernel_rfl)) K.out).mono ?_
  rintro e w20 hp
  obtain ⟨rfl, k1, b1, z1⟩ := hp
  have K := hid k1; have BB := hid (BB.out.trans b1)
  clear k1 b1 z1
  go_wp2_with fail
  refine (asm_if w.heap.size g (acas [110, 101, 120, 116] [98, 97, 115, 101] 0 [110, 111, 119] (ado 3 [110, 101, 120, 116] [110, 101, 120, 116] [111, 110, 101] (ado 3 [110, 101, 120, 116] [110, 111, 119] [109, 111, 114, 101] (aat [116, 104, 101, 114, 101] (agoto [117, 112] (ado 4 [110] [110] [111, 110, 101] (ado 5 [109, 111, 114, 101] [109, 111, 114, 101] [119, 105, 100, 101] (aif 12 [110] [116, 104, 101, 114, 101] (aat [117, 112] (ado 5 [109, 111, 114, 101] [118] [99, 111, 117, 110, 116] (aif 11 [102, 117, 108, 108] [110, 111] (ado 8 [102, 117, 108, 108] [110] [97, 108, 108] (ado 7 [110] [110, 111, 119] [99, 111, 117, 110, 116] (aword 13 [110, 111, 119] [98, 97, 115, 101] 0 (aat [97, 103, 97, 105, 110] (aset [97, 108, 108] (N : Int) (aset [99, 111, 117, 110, 116] 16 (aset [119, 105, 100, 101] 64 (aset [111, 110, 101] 1 (aregs [[118]] anew)))))))))))))))))))) 12 [110, 101, 120, 116] [97, 103, 97, 105, 110] w20 BB.out.size (Nat.le_of_ble_eq_true (by kernel_rfl)) (Nat.le_of_ble_eq_true (by kernel_rfl)) (Nat.le_of_ble_eq_true (by kernel_rfl)) (Nat.le_of_ble_eq_true (by kernel_rfl)) K.out).mono ?_
  rintro e w21 hp
  obtain ⟨rfl, k1, b1, z1⟩ := hp
  have K := hid k1; have BB := hid (BB.out.trans b1)
  clear k1 b1 z1
  go_wp2_with fail
  refine (asm_tell w.heap.size g (aif 12 [110, 101, 120, 116] [97, 103, 97, 105, 110] (acas [110, 101, 120, 116] [98, 97, 115, 101] 0 [110, 111, 119] (ado 3 [110, 101, 120, 116] [110, 101, 120, 116] [111, 110, 101] (ado 3 [110, 101, 120, 116] [110, 111, 119] [109, 111, 114, 101] (aat [116, 104, 101, 114, 101] (agoto [117, 112] (ado 4 [110] [110] [111, 110, 101] (ado 5 [109, 111, 114, 101] [109, 111, 114, 101] [119, 105, 100, 101] (aif 12 [110] [116, 104, 101, 114, 101] (aat [117, 112] (ado 5 [109, 111, 114, 101] [118] [99, 111, 117, 110, 116] (aif 11 [102, 117, 108, 108] [110, 111] (ado 8 [102, 117, 108, 108] [110] [97, 108, 108] (ado 7 [110] [110, 111, 119] [99, 111, 117, 110, 116] (aword 13 [110, 111, 119] [98, 97, 115, 101] 0 (aat [97, 103, 97, 105, 110] (aset [97, 108, 108] (N : Int) (aset [99, 111, 117, 110, 116] 16 (aset [119, 105, 100, 101] 64 (aset [111, 110, 101] 1 (aregs [[118]] anew))))))))))))))))))))) [[111, 110, 101]] w21.heap.size 1 (w21.alloc (.cells #[.string ⟨#[111, 110, 101]⟩] 9)) (Nat.le_trans BB.out.size (bnew (bnil _) _).size) (by decide) rfl (by decide) (Nat.le_of_ble_eq_true (by kernel_rfl)) (Nat.le_of_ble_eq_true (by kernel_rfl)) (K.out.below (bnew (bnil _) _)) (Blk.new w21 _ _)).mono ?_
  rintro e w22 hp
  obtain ⟨rfl, k1, b1, z1⟩ := hp
  have K := hid k1; have BB := hid ((bgo BB.out (bnew (bnil w21) (.cells #[.string ⟨#[111, 110, 101]⟩] 9))).trans b1)
  clear k1 b1 z1
  go_wp2_with fail
  refine (asm_done w.heap.size g (atell [[111, 110, 101]] (aif 12 [110, 101, 120, 116] [97, 103, 97, 105, 110] (acas [110, 101, 120, 116] [98, 97, 115, 101] 0 [110, 111, 119] (ado 3 [110, 101, 120, 116] [110, 101, 120, 116] [111, 110, 101] (ado 3 [110, 101, 120, 116] [110, 111, 119] [109, 111, 114, 101] (aat [116, 104, 101, 114, 101] (agoto [117, 112] (ado 4 [110] [110] [111, 110, 101] (ado 5 [109, 111, 114, 101] [109, 111, 114, 101] [119, 105, 100, 101] (aif 12 [110] [116, 104, 101, 114, 101] (aat [117, 112] (ado 5 [109, 111, 114, 101] [118] [99, 111, 117, 110, 116] (aif 11 [102, 117, 108, 108] [110, 111] (ado 8 [102, 117, 108, 108] [110] [97, 108, 108] (ado 7 [110] [110, 111, 119] [99, 111, 117, 110, 116] (aword 13 [110, 111, 119] [98, 97, 115, 101] 0 (aat [97, 103, 97, 105, 110] (aset [97, 108, 108] (N : Int) (aset [99, 111, 117, 110, 116] 16 (aset [119, 105, 100, 101] 64 (aset [111, 110, 101] 1 (aregs [[118]] anew)))))))))))))))))))))) w22 BB.out.size (Nat.le_of_ble_eq_true (by kernel_rfl)) K.out).mono ?_
  rintro e w23 hp
  obtain ⟨rfl, k1, b1, z1⟩ := hp
  have K := hid k1; have BB := hid (BB.out.trans b1)
  clear k1 b1 z1
  go_wp2_with fail
  refine (asm_at w.heap.size g (adone (atell [[111, 110, 101]] (aif 12 [110, 101, 120, 116] [97, 103, 97, 105, 110] (acas [110, 101, 120, 116] [98, 97, 115, 101] 0 [110, 111, 119] (ado 3 [110, 101, 120, 116] [110, 101, 120, 116] [111, 110, 101] (ado 3 [110, 101, 120, 116] [110, 111, 119] [109, 111, 114, 101] (aat [116, 104, 101, 114, 101] (agoto [117, 112] (ado 4 [110] [110] [111, 110, 101] (ado 5 [109, 111, 114, 101] [109, 111, 114, 101] [119, 105, 100, 101] (aif 12 [110] [116, 104, 101, 114, 101] (aat [117, 112] (ado 5 [109, 111, 114, 101] [118] [99, 111, 117, 110, 116] (aif 11 [102, 117, 108, 108] [110, 111] (ado 8 [102, 117, 108, 108] [110] [97, 108, 108] (ado 7 [110] [110, 111, 119] [99, 111, 117, 110, 116] (aword 13 [110, 111, 119] [98, 97, 115, 101] 0 (aat [97, 103, 97, 105, 110] (aset [97, 108, 108] (N : Int) (aset [99, 111, 117, 110, 116] 16 (aset [119, 105, 100, 101] 64 (aset [111, 110, 101] 1 (aregs [[118]] anew))))))))))))))))))))))) [110, 111] w23 BB.out.size (Nat.le_of_ble_eq_true (by kernel_rfl)) (Nat.le_of_ble_eq_true (by kernel_rfl)) (Nat.le_of_ble_eq_true (by kernel_rfl)) K.out).mono ?_
  rintro e w24 hp
  obtain ⟨rfl, k1, b1, z1⟩ := hp
  have K := hid k1; have BB := hid (BB.out.trans b1)
  clear k1 b1 z1
  go_wp2_with fail
  refine (asm_tell w.heap.size g (aat [110, 111] (adone (atell [[111, 110, 101]] (aif 12 [110, 101, 120, 116] [97, 103, 97, 105, 110] (acas [110, 101, 120, 116] [98, 97, 115, 101] 0 [110, 111, 119] (ado 3 [110, 101, 120, 116] [110, 101, 120, 116] [111, 110, 101] (ado 3 [110, 101, 120, 116] [110, 111, 119] [109, 111, 114, 101] (aat [116, 104, 101, 114, 101] (agoto [117, 112] (ado 4 [110] [110] [111, 110, 101] (ado 5 [109, 111, 114, 101] [109, 111, 114, 101] [119, 105, 100, 101] (aif 12 [110] [116, 104, 101, 114, 101] (aat [117, 112] (ado 5 [109, 111, 114, 101] [118] [99, 111, 117, 110, 116] (aif 11 [102, 117, 108, 108] [110, 111] (ado 8 [102, 117, 108, 108] [110] [97, 108, 108] (ado 7 [110] [110, 111, 119] [99, 111, 117, 110, 116] (aword 13 [110, 111, 119] [98, 97, 115, 101] 0 (aat [97, 103, 97, 105, 110] (aset [97, 108, 108] (N : Int) (aset [99, 111, 117, 110, 116] 16 (aset [119, 105, 100, 101] 64 (aset [111, 110, 101] 1 (aregs [[118]] anew)))))))))))))))))))))))) [[98, 97, 115, 101]] w24.heap.size 1 (w24.alloc (.cells #[.string ⟨#[98, 97, 115, 101]⟩] 9)) (Nat.le_trans BB.out.size (bnew (bnil _) _).size) (by decide) rfl (by decide) (Nat.le_of_ble_eq_true (by kernel_rfl)) (Nat.le_of_ble_eq_true (by kernel_rfl)) (K.out.below (bnew (bnil _) _)) (Blk.new w24 _ _)).mono ?_
  rintro e w25 hp
  obtain ⟨rfl, k1, b1, z1⟩ := hp
  have K := hid k1; have BB := hid ((bgo BB.out (bnew (bnil w24) (.cells #[.string ⟨#[98, 97, 115, 101]⟩] 9))).trans b1)
  clear k1 b1 z1
  go_wp2_with fail
  refine (asm_ops w.heap.size g (atell [[98, 97, 115, 101]] (aat [110, 111] (adone (atell [[111, 110, 101]] (aif 12 [110, 101, 120, 116] [97, 103, 97, 105, 110] (acas [110, 101, 120, 116] [98, 97, 115, 101] 0 [110, 111, 119] (ado 3 [110, 101, 120, 116] [110, 101, 120, 116] [111, 110, 101] (ado 3 [110, 101, 120, 116] [110, 111, 119] [109, 111, 114, 101] (aat [116, 104, 101, 114, 101] (agoto [117, 112] (ado 4 [110] [110] [111, 110, 101] (ado 5 [109, 111, 114, 101] [109, 111, 114, 101] [119, 105, 100, 101] (aif 12 [110] [116, 104, 101, 114, 101] (aat [117, 112] (ado 5 [109, 111, 114, 101] [118] [99, 111, 117, 110, 116] (aif 11 [102, 117, 108, 108] [110, 111] (ado 8 [102, 117, 108, 108] [110] [97, 108, 108] (ado 7 [110] [110, 111, 119] [99, 111, 117, 110, 116] (aword 13 [110, 111, 119] [98, 97, 115, 101] 0 (aat [97, 103, 97, 105, 110] (aset [97, 108, 108] (N : Int) (aset [99, 111, 117, 110, 116] 16 (aset [119, 105, 100, 101] 64 (aset [111, 110, 101] 1 (aregs [[118]] anew))))))))))))))))))))))))) w25 BB.out.size (gotos_in (by kernel_rfl)) (Nat.le_of_ble_eq_true (by kernel_rfl)) (Nat.le_of_ble_eq_true (by kernel_rfl)) K.out).mono ?_
  rintro e w99 hp
  have HC := hid (CodePost.of (code := qputCode N) BB.out hp (by kernel_rfl))
  obtain ⟨v, rfl, ho⟩ := HC.out
  clear hp
  go_wp2
  go_ret2
  exact ⟨v, rfl, ho⟩
set_option maxHeartbeats 1000000 in
theorem queue_take (N : Nat) (w : World) (h1 : 1 ≤ N) (h8 : N ≤ 8) : Calls Tryd.prog 56 #[.int .i64 (N : Int)] w fun e w' => CodePost2 w (qtakeCode) e w' := by
  go_enter Tryd.func56, Tryd.ntmps56
  go_wp2_with fail
  refine (queue_may N w h1 h8).mono ?_
  rintro e w' ⟨rfl, rfl⟩
  go_wp2_with fail
  refine (asm_new w.heap.size [] none 0 0 w (Nat.le_refl _) (by simp) rfl (by decide) (.inl rfl)).mono ?_
  rintro e w1 hp
  obtain ⟨g, rfl, k1, b1, z1⟩ := hp
  have K := hid k1; have BB := hid b1
  clear k1 b1 z1
  go_wp2_with fail
  refine (asm_set w.heap.size g (aregs [] anew) [111, 110, 101] 1 w1 BB.out.size (Nat.le_of_ble_eq_true (by kernel_rfl)) (Nat.le_of_ble_eq_true (by kernel_rfl)) (Nat.le_of_ble_eq_true (by kernel_rfl)) K.out).mono ?_
  rintro e w2 hp
  obtain ⟨rfl, k1, b1, z1⟩ := hp
  have K := hid k1; have BB := hid (BB.out.trans b1)
  clear k1 b1 z1
  go_wp2_with fail
  refine (asm_set w.heap.size g (aset [111, 110, 101] 1 (aregs [] anew)) [119, 105, 100, 101] 64 w2 BB.out.size (Nat.le_of_ble_eq_true (by kernel_rfl)) (Nat.le_of_ble_eq_true (by kernel_rfl)) (Nat.le_of_ble_eq_true (by kernel_rfl)) K.out).mono ?_
  rintro e w3 hp
  obtain ⟨rfl, k1, b1, z1⟩ := hp
  have K := hid k1; have BB := hid (BB.out.trans b1)
  clear k1 b1 z1
  go_wp2_with fail
  refine (asm_set w.heap.size g (aset [119, 105, 100, 101] 64 (aset [111, 110, 101] 1 (aregs [] anew))) [99, 111, 117, 110, 116] 16 w3 BB.out.size (Nat.le_of_ble_eq_true (by kernel_rfl)) (Nat.le_of_ble_eq_true (by kernel_rfl)) (Nat.le_of_ble_eq_true (by kernel_rfl)) K.out).mono ?_
  rintro e w4 hp
  obtain ⟨rfl, k1, b1, z1⟩ := hp
  have K := hid k1; have BB := hid (BB.out.trans b1)
  clear k1 b1 z1
  go_wp2_with fail
  refine (asm_at w.heap.size g (aset [99, 111, 117, 110, 116] 16 (aset [119, 105, 100, 101] 64 (aset [111, 110, 101] 1 (aregs [] anew)))) [97, 103, 97, 105, 110] w4 BB.out.size (Nat.le_of_ble_eq_true (by kernel_rfl)) (Nat.le_of_ble_eq_true (by kernel_rfl)) (Nat.le_of_ble_eq_true (by kernel_rfl)) K.out).mono ?_
  rintro e w5 hp
  obtain ⟨rfl, k1, b1, z1⟩ := hp
  have K := hid k1; have BB := hid (BB.out.trans b1)
  clear k1 b1 z1
  go_wp2_with fail
  refine (asm_word w.heap.size g (aat [97, 103, 97, 105, 110] (aset [99, 111, 117, 110, 116] 16 (aset [119, 105, 100, 101] 64 (aset [111, 110, 101] 1 (aregs [] anew))))) 13 [110, 111, 119] [98, 97, 115, 101] 0 w5 BB.out.size (Nat.le_of_ble_eq_true (by kernel_rfl)) (Nat.le_of_ble_eq_true (by kernel_rfl)) (Nat.le_of_ble_eq_true (by kernel_rfl)) (Nat.le_of_ble_eq_true (by kernel_rfl)) K.out).mono ?_
  rintro e w6 hp
  obtain ⟨rfl, k1, b1, z1⟩ := hp
  have K := hid k1; have BB := hid (BB.out.trans b1)
  clear k1 b1 z1
  go_wp2_with fail
  refine (asm_do w.heap.size g (aword 13 [110, 111, 119] [98, 97, 115, 101] 0 (aat [97, 103, 97, 105, 110] (aset [99, 111, 117, 110, 116] 16 (aset [119, 105, 100, 101] 64 (aset [111, 110, 101] 1 (aregs [] anew)))))) 7 [110] [110, 111, 119] [99, 111, 117, 110, 116] w6 BB.out.size (Nat.le_of_ble_eq_true (by kernel_rfl)) (Nat.le_of_ble_eq_true (by kernel_rfl)) (Nat.le_of_ble_eq_true (by kernel_rfl)) (Nat.le_of_ble_eq_true (by kernel_rfl)) (Nat.le_of_ble_eq_true (by kernel_rfl)) K.out).mono ?_
  rintro e w7 hp
  obtain ⟨rfl, k1, b1, z1⟩ := hp
  have K := hid k1; have BB := hid (BB.out.trans b1)
  clear k1 b1 z1
  go_wp2_with fail
  refine (asm_if w.heap.size g (ado 7 [110] [110, 111, 119] [99, 111, 117, 110, 116] (aword 13 [110, 111, 119] [98, 97, 115, 101] 0 (aat [97, 103, 97, 105, 110] (aset [99, 111, 117, 110, 116] 16 (aset [119, 105, 100, 101] 64 (aset [111, 110, 101] 1 (aregs [] anew))))))) 12 [110] [110, 111] w7 BB.out.size (Nat.le_of_ble_eq_true (by kernel_rfl)) (Nat.le_of_ble_eq_true (by kernel_rfl)) (Nat.le_of_ble_eq_true (by kernel_rfl)) (Nat.le_of_ble_eq_true (by kernel_rfl)) K.out).mono ?_
  rintro e w8 hp
  obtain ⟨rfl, k1, b1, z1⟩ := hp
  have K := hid k1; have BB := hid (BB.out.trans b1)
  clear k1 b1 z1
  go_wp2_with fail
  refine (asm_do w.heap.size g (aif 12 [110] [110, 111] (ado 7 [110] [110, 111, 119] [99, 111, 117, 110, 116] (aword 13 [110, 111, 119] [98, 97, 115, 101] 0 (aat [97, 103, 97, 105, 110] (aset [99, 111, 117, 110, 116] 16 (aset [119, 105, 100, 101] 64 (aset [111, 110, 101] 1 (aregs [] anew)))))))) 6 [114, 101, 115, 116] [110, 111, 119] [99, 111, 117, 110, 116] w8 BB.out.size (Nat.le_of_ble_eq_true (by kernel_rfl)) (Nat.le_of_ble_eq_true (by kernel_rfl)) (Nat.le_of_ble_eq_true (by kernel_rfl)) (Nat.le_of_ble_eq_true (by kernel_rfl)) (Nat.le_of_ble_eq_true (by kernel_rfl)) K.out).mono ?_
  rintro e w9 hp
  obtain ⟨rfl, k1, b1, z1⟩ := hp
  have K := hid k1; have BB := hid (BB.out.trans b1)
  clear k1 b1 z1
  go_wp2_with fail
  refine (asm_do w.heap.size g (ado 6 [114, 101, 115, 116] [110, 111, 119] [99, 111, 117, 110, 116] (aif 12 [110] [110, 111] (ado 7 [110] [110, 111, 119] [99, 111, 117, 110, 116] (aword 13 [110, 111, 119] [98, 97, 115, 101] 0 (aat [97, 103, 97, 105, 110] (aset [99, 111, 117, 110, 116] 16 (aset [119, 105, 100, 101] 64 (aset [111, 110, 101] 1 (aregs [] anew))))))))) 7 [118] [114, 101, 115, 116] [119, 105, 100, 101] w9 BB.out.size (Nat.le_of_ble_eq_true (by kernel_rfl)) (Nat.le_of_ble_eq_true (by kernel_rfl)) (Nat.le_of_ble_eq_true (by kernel_rfl)) (Nat.le_of_ble_eq_true (by kernel_rfl)) (Nat.le_of_ble_eq_true (by kernel_rfl)) K.out).mono ?_
  rintro e w10 hp
  obtain ⟨rfl, k1, b1, z1⟩ := hp
  have K := hid k1; have BB := hid (BB.out.trans b1)
  clear k1 b1 z1
  go_wp2_with fail
  refine (asm_do w.heap.size g (ado 7 [118] [114, 101, 115, 116] [119, 105, 100, 101] (ado 6 [114, 101, 115, 116] [110, 111, 119] [99, 111, 117, 110, 116] (aif 12 [110] [110, 111] (ado 7 [110] [110, 111, 119] [99, 111, 117, 110, 116] (aword 13 [110, 111, 119] [98, 97, 115, 101] 0 (aat [97, 103, 97, 105, 110] (aset [99, 111, 117, 110, 116] 16 (aset [119, 105, 100, 101] 64 (aset [111, 110, 101] 1 (aregs [] anew)))))))))) 6 [114, 101, 115, 116] [114, 101, 115, 116] [119, 105, 100, 101] w10 BB.out.size (Nat.le_of_ble_eq_true (by kernel_rfl)) (Nat.le_of_ble_eq_true (by kernel_rfl)) (Nat.le_of_ble_eq_true (by kernel_rfl)) (Nat.le_of_ble_eq_true (by kernel_rfl)) (Nat.le_of_ble_eq_true (by kernel_rfl)) K.out).mono ?_
  rintro e w11 hp
  obtain ⟨rfl, k1, b1, z1⟩ := hp
  have K := hid k1; have BB := hid (BB.out.trans b1)
  clear k1 b1 z1
  go_wp2_with fail
  refine (asm_do w.heap.size g (ado 6 [114, 101, 115, 116] [114, 101, 115, 116] [119, 105, 100, 101] (ado 7 [118] [114, 101, 115, 116] [119, 105, 100, 101] (ado 6 [114, 101, 115, 116] [110, 111, 119] [99, 111, 117, 110, 116] (aif 12 [110] [110, 111] (ado 7 [110] [110, 111, 119] [99, 111, 117, 110, 116] (aword 13 [110, 111, 119] [98, 97, 115, 101] 0 (aat [97, 103, 97, 105, 110] (aset [99, 111, 117, 110, 116] 16 (aset [119, 105, 100, 101] 64 (aset [111, 110, 101] 1 (aregs [] anew))))))))))) 5 [110, 101, 120, 116] [114, 101, 115, 116] [99, 111, 117, 110, 116] w11 BB.out.size (Nat.le_of_ble_eq_true (by kernel_rfl)) (Nat.le_of_ble_eq_true (by kernel_rfl)) (Nat.le_of_ble_eq_true (by kernel_rfl)) (Nat.le_of_ble_eq_true (by kernel_rfl)) (Nat.le_of_ble_eq_true (by kernel_rfl)) K.out).mono ?_
  rintro e w12 hp
  obtain ⟨rfl, k1, b1, z1⟩ := hp
  have K := hid k1; have BB := hid (BB.out.trans b1)
  clear k1 b1 z1
  go_wp2_with fail
  refine (asm_do w.heap.size g (ado 5 [110, 101, 120, 116] [114, 101, 115, 116] [99, 111, 117, 110, 116] (ado 6 [114, 101, 115, 116] [114, 101, 115, 116] [119, 105, 100, 101] (ado 7 [118] [114, 101, 115, 116] [119, 105, 100, 101] (ado 6 [114, 101, 115, 116] [110, 111, 119] [99, 111, 117, 110, 116] (aif 12 [110] [110, 111] (ado 7 [110] [110, 111, 119] [99, 111, 117, 110, 116] (aword 13 [110, 111, 119] [98, 97, 115, 101] 0 (aat [97, 103, 97, 105, 110] (aset [99, 111, 117, 110, 116] 16 (aset [119, 105, 100, 101] 64 (aset [111, 110, 101] 1 (aregs [] anew)))))))))))) 3 [110, 101, 120, 116] [110, 101, 120, 116] [110] w12 BB.out.size (Nat.le_of_ble_eq_true (by kernel_rfl)) (Nat.le_of_ble_eq_true (by kernel_rfl)) (Nat.le_of_ble_eq_true (by kernel_rfl)) (Nat.le_of_ble_eq_true (by kernel_rfl)) (Nat.le_of_ble_eq_true (by kernel_rfl)) K.out).mono ?_
  rintro e w13 hp
  obtain ⟨rfl, k1, b1, z1⟩ := hp
  have K := hid k1; have BB := hid (BB.out.trans b1)
  clear k1 b1 z1
  go_wp2_with fail
  refine (asm_do w.heap.size g (ado 3 [110, 101, 120, 116] [110, 101, 120, 116] [110] (ado 5 [110, 101, 120, 116] [114, 101, 115, 116] [99, 111, 117, 110, 116] (ado 6 [114, 101, 115, 116] [114, 101, 115, 116] [119, 105, 100, 101] (ado 7 [118] [114, 101, 115, 116] [119, 105, 100, 101] (ado 6 [114, 101, 115, 116] [110, 111, 119] [99, 111, 117, 110, 116] (aif 12 [110] [110, 111] (ado 7 [110] [110, 111, 119] [99, 111, 117, 110, 116] (aword 13 [110, 111, 119] [98, 97, 115, 101] 0 (aat [97, 103, 97, 105, 110] (aset [99, 111, 117, 110, 116] 16 (aset [119, 105, 100, 101] 64 (aset [111, 110, 101] 1 (aregs [] anew))))))))))))) 4 [110, 101, 120, 116] [110, 101, 120, 116] [111, 110, 101] w13 BB.out.size (Nat.le_of_ble_eq_true (by kernel_rfl)) (Nat.le_of_ble_eq_true (by kernel_rfl)) (Nat.le_of_ble_eq_true (by kernel_rfl)) (Nat.le_of_ble_eq_true (by kernel_rfl)) (Nat.le_of_ble_eq_true (by kernel_rfl)) K.out).mono ?_
  rintro e w14 hp
  obtain ⟨rfl, k1, b1, z1⟩ := hp
  have K := hid k1; have BB := hid (BB.out.trans b1)
  clear k1 b1 z1
  go_wp2_with fail
  refine (asm_cas w.heap.size g (ado 4 [110, 101, 120, 116] [110, 101, 120, 116] [111, 110, 101] (ado 3 [110, 101, 120, 116] [110, 101, 120, 116] [110] (ado 5 [110, 101, 120, 116] [114, 101, 115, 116] [99, 111, 117, 110, 116] (ado 6 [114, 101, 115, 116] [114, 101, 115, 116] [119, 105, 100, 101] (ado 7 [118] [114, 101, 115, 116] [119, 105, 100, 101] (ado 6 [114, 101, 115, 116] [110, 111, 119] [99, 111, 117, 110, 116] (aif 12 [110] [110, 111] (ado 7 [110] [110, 111, 119] [99, 111, 117, 110, 116] (aword 13 [110, 111, 119] [98, 97, 115, 101] 0 (aat [97, 103, 97, 105, 110] (aset [99, 111, 117, 110, 116] 16 (aset [119, 105, 100, 101] 64 (aset [111, 110, 101] 1 (aregs [] anew)))))))))))))) [110, 101, 120, 116] [98, 97, 115, 101] 0 [110, 111, 119] w14 BB.out.size (Nat.le_of_ble_eq_true (by kernel_rfl)) (Nat.le_of_ble_eq_true (by kernel_rfl)) (Nat.le_of_ble_eq_true (by kernel_rfl)) (Nat.le_of_ble_eq_true (by kernel_rfl)) (Nat.le_of_ble_eq_true (by kernel_rfl)) K.out).mono ?_
  rintro e w15 hp
  obtain ⟨rfl, k1, b1, z1⟩ := hp
  have K := hid k1; have BB := hid (BB.out.trans b1)
  clear k1 b1 z1
  go_wp2_with fail
  refine (asm_if w.heap.size g (acas [110, 101, 120, 116] [98, 97, 115, 101] 0 [110, 111, 119] (ado 4 [110, 101, 120, 116] [110, 101, 120, 116] [111, 110, 101] (ado 3 [110, 101, 120, 116] [110, 101, 120, 116] [110] (ado 5 [110, 101, 120, 116] [114, 101, 115, 116] [99, 111, 117, 110, 116] (ado 6 [114, 101, 115, 116] [114, 101, 115, 116] [119, 105, 100, 101] (ado 7 [118] [114, 101, 115, 116] [119, 105, 100, 101] (ado 6 [114, 101, 115, 116] [110, 111, 119] [99, 111, 117, 110, 116] (aif 12 [110] [110, 111] (ado 7 [110] [110, 111, 119] [99, 111, 117, 110, 116] (aword 13 [110, 111, 119] [98, 97, 115, 101] 0 (aat [97, 103, 97, 105, 110] (aset [99, 111, 117, 110, 116] 16 (aset [119, 105, 100, 101] 64 (aset [111, 110, 101] 1 (aregs [] anew))))))))))))))) 12 [110, 101, 120, 116] [97, 103, 97, 105, 110] w15 BB.out.size (Nat.le_of_ble_eq_true (by kernel_rfl)) (Nat.le_of_ble_eq_true (by kernel_rfl)) (Nat.le_of_ble_eq_true (by kernel_rfl)) (Nat.le_of_ble_eq_true (by kernel_rfl)) K.out).mono ?_
  rintro e w16 hp
  obtain ⟨rfl, k1, b1, z1⟩ := hp
  have K := hid k1; have BB := hid (BB.out.trans b1)
  clear k1 b1 z1
  go_wp2_with fail
  refine (asm_tell w.heap.size g (aif 12 [110, 101, 120, 116] [97, 103, 97, 105, 110] (acas [110, 101, 120, 116] [98, 97, 115, 101] 0 [110, 111, 119] (ado 4 [110, 101, 120, 116] [110, 101, 120, 116] [111, 110, 101] (ado 3 [110, 101, 120, 116] [110, 101, 120, 116] [110] (ado 5 [110, 101, 120, 116] [114, 101, 115, 116] [99, 111, 117, 110, 116] (ado 6 [114, 101, 115, 116] [114, 101, 115, 116] [119, 105, 100, 101] (ado 7 [118] [114, 101, 115, 116] [119, 105, 100, 101] (ado 6 [114, 101, 115, 116] [110, 111, 119] [99, 111, 117, 110, 116] (aif 12 [110] [110, 111] (ado 7 [110] [110, 111, 119] [99, 111, 117, 110, 116] (aword 13 [110, 111, 119] [98, 97, 115, 101] 0 (aat [97, 103, 97, 105, 110] (aset [99, 111, 117, 110, 116] 16 (aset [119, 105, 100, 101] 64 (aset [111, 110, 101] 1 (aregs [] anew)))))))))))))))) [[118]] w16.heap.size 1 (w16.alloc (.cells #[.string ⟨#[118]⟩] 9)) (Nat.le_trans BB.out.size (bnew (bnil _) _).size) (by decide) rfl (by decide) (Nat.le_of_ble_eq_true (by kernel_rfl)) (Nat.le_of_ble_eq_true (by kernel_rfl)) (K.out.below (bnew (bnil _) _)) (Blk.new w16 _ _)).mono ?_
  rintro e w17 hp
  obtain ⟨rfl, k1, b1, z1⟩ := hp
  have K := hid k1; have BB := hid ((bgo BB.out (bnew (bnil w16) (.cells #[.string ⟨#[118]⟩] 9))).trans b1)
  clear k1 b1 z1
  go_wp2_with fail
  refine (asm_done w.heap.size g (atell [[118]] (aif 12 [110, 101, 120, 116] [97, 103, 97, 105, 110] (acas [110, 101, 120, 116] [98, 97, 115, 101] 0 [110, 111, 119] (ado 4 [110, 101, 120, 116] [110, 101, 120, 116] [111, 110, 101] (ado 3 [110, 101, 120, 116] [110, 101, 120, 116] [110] (ado 5 [110, 101, 120, 116] [114, 101, 115, 116] [99, 111, 117, 110, 116] (ado 6 [114, 101, 115, 116] [114, 101, 115, 116] [119, 105, 100, 101] (ado 7 [118] [114, 101, 115, 116] [119, 105, 100, 101] (ado 6 [114, 101, 115, 116] [110, 111, 119] [99, 111, 117, 110, 116] (aif 12 [110] [110, 111] (ado 7 [110] [110, 111, 119] [99, 111, 117, 110, 116] (aword 13 [110, 111, 119] [98, 97, 115, 101] 0 (aat [97, 103, 97, 105, 110] (aset [99, 111, 117, 110, 116] 16 (aset [119, 105, 100, 101] 64 (aset [111, 110, 101] 1 (aregs [] anew))))))))))))))))) w17 BB.out.size (Nat.le_of_ble_eq_true (by kernel_rfl)) K.out).mono ?_
  rintro e w18 hp
  obtain ⟨rfl, k1, b1, z1⟩ := hp
  have K := hid k1; have BB := hid (BB.out.trans b1)
  clear k1 b1 z1
  go_wp2_with fail
  refine (asm_at w.heap.size g (adone (atell [[118]] (aif 12 [110, 101, 120, 116] [97, 103, 97, 105, 110] (acas [110, 101, 120, 116] [98, 97, 115, 101] 0 [110, 111, 119] (ado 4 [110, 101, 120, 116] [110, 101, 120, 116] [111, 110, 101] (ado 3 [110, 101, 120, 116] [110, 101, 120, 116] [110] (ado 5 [110, 101, 120, 116] [114, 101, 115, 116] [99, 111, 117, 110, 116] (ado 6 [114, 101, 115, 116] [114, 101, 115, 116] [119, 105, 100, 101] (ado 7 [118] [114, 101, 115, 116] [119, 105, 100, 101] (ado 6 [114, 101, 115, 116] [110, 111, 119] [99, 111, 117, 110, 116] (aif 12 [110] [110, 111] (ado 7 [110] [110, 111, 119] [99, 111, 117, 110, 116] (aword 13 [110, 111, 119] [98, 97, 115, 101] 0 (aat [97, 103, 97, 105, 110] (aset [99, 111, 117, 110, 116] 16 (aset [119, 105, 100, 101] 64 (aset [111, 110, 101] 1 (aregs [] anew)))))))))))))))))) [110, 111] w18 BB.out.size (Nat.le_of_ble_eq_true (by kernel_rfl)) (Nat.le_of_ble_eq_true (by kernel_rfl)) (Nat.le_of_ble_eq_true (by kernel_rfl)) K.out).mono ?_
  rintro e w19 hp
  obtain ⟨rfl, k1, b1, z1⟩ := hp
  have K := hid k1; have BB := hid (BB.out.trans b1)
  clear k1 b1 z1
  go_wp2_with fail
  refine (asm_set w.heap.size g (aat [110, 111] (adone (atell [[118]] (aif 12 [110, 101, 120, 116] [97, 103, 97, 105, 110] (acas [110, 101, 120, 116] [98, 97, 115, 101] 0 [110, 111, 119] (ado 4 [110, 101, 120, 116] [110, 101, 120, 116] [111, 110, 101] (ado 3 [110, 101, 120, 116] [110, 101, 120, 116] [110] (ado 5 [110, 101, 120, 116] [114, 101, 115, 116] [99, 111, 117, 110, 116] (ado 6 [114, 101, 115, 116] [114, 101, 115, 116] [119, 105, 100, 101] (ado 7 [118] [114, 101, 115, 116] [119, 105, 100, 101] (ado 6 [114, 101, 115, 116] [110, 111, 119] [99, 111, 117, 110, 116] (aif 12 [110] [110, 111] (ado 7 [110] [110, 111, 119] [99, 111, 117, 110, 116] (aword 13 [110, 111, 119] [98, 97, 115, 101] 0 (aat [97, 103, 97, 105, 110] (aset [99, 111, 117, 110, 116] 16 (aset [119, 105, 100, 101] 64 (aset [111, 110, 101] 1 (aregs [] anew))))))))))))))))))) [118] (-1) w19 BB.out.size (Nat.le_of_ble_eq_true (by kernel_rfl)) (Nat.le_of_ble_eq_true (by kernel_rfl)) (Nat.le_of_ble_eq_true (by kernel_rfl)) K.out).mono ?_
  rintro e w20 hp
  obtain ⟨rfl, k1, b1, z1⟩ := hp
  have K := hid k1; have BB := hid (BB.out.trans b1)
  clear k1 b1 z1
  go_wp2_with fail
  refine (asm_tell w.heap.size g (aset [118] (-1) (aat [110, 111] (adone (atell [[118]] (aif 12 [110, 101, 120, 116] [97, 103, 97, 105, 110] (acas [110, 101, 120, 116] [98, 97, 115, 101] 0 [110, 111, 119] (ado 4 [110, 101, 120, 116] [110, 101, 120, 116] [111, 110, 101] (ado 3 [110, 101, 120, 116] [110, 101, 120, 116] [110] (ado 5 [110, 101, 120, 116] [114, 101, 115, 116] [99, 111, 117, 110, 116] (ado 6 [114, 101, 115, 116] [114, 101, 115, 116] [119, 105, 100, 101] (ado 7 [118] [114, 101, 115, 116] [119, 105, 100, 101] (ado 6 [114, 101, 115, 116] [110, 111, 119] [99, 111, 117, 110, 116] (aif 12 [110] [110, 111] (ado 7 [110] [110, 111, 119] [99, 111, 117, 110, 116] (aword 13 [110, 111, 119] [98, 97, 115, 101] 0 (aat [97, 103, 97, 105, 110] (aset [99, 111, 117, 110, 116] 16 (aset [119, 105, 100, 101] 64 (aset [111, 110, 101] 1 (aregs [] anew)))))))))))))))))))) [[118]] w20.heap.size 1 (w20.alloc (.cells #[.string ⟨#[118]⟩] 9)) (Nat.le_trans BB.out.size (bnew (bnil _) _).size) (by decide) rfl (by decide) (Nat.le_of_ble_eq_true (by kernel_rfl)) (Nat.le_of_ble_eq_true (by kernel_rfl)) (K.out.below (bnew (bnil _) _)) (Blk.new w20 _ _)).mono ?_
  rintro e w21 hp
  obtain ⟨rfl, k1, b1, z1⟩ := hp
  have K := hid k1; have BB := hid ((bgo BB.out (bnew (bnil w20) (.cells #[.string ⟨#[118]⟩] 9))).trans b1)
  clear k1 b1 z1
  go_wp2_with fail
  refine (asm_ops w.heap.size g (atell [[118]] (aset [118] (-1) (aat [110, 111] (adone (atell [[118]] (aif 12 [110, 101, 120, 116] [97, 103, 97, 105, 110] (acas [110, 101, 120, 116] [98, 97, 115, 101] 0 [110, 111, 119] (ado 4 [110, 101, 120, 116] [110, 101, 120, 116] [111, 110, 101] (ado 3 [110, 101, 120, 116] [110, 101, 120, 116] [110] (ado 5 [110, 101, 120, 116] [114, 101, 115, 116] [99, 111, 117, 110, 116] (ado 6 [114, 101, 115, 116] [114, 101, 115, 116] [119, 105, 100, 101] (ado 7 [118] [114, 101, 115, 116] [119, 105, 100, 101] (ado 6 [114, 101, 115, 116] [110, 111, 119] [99, 111, 117, 110, 116] (aif 12 [110] [110, 111] (ado 7 [110] [110, 111, 119] [99, 111, 117, 110, 116] (aword 13 [110, 111, 119] [98, 97, 115, 101] 0 (aat [97, 103, 97, 105, 110] (aset [99, 111, 117, 110, 116] 16 (aset [119, 105, 100, 101] 64 (aset [111, 110, 101] 1 (aregs [] anew))))))))))))))))))))) w21 BB.out.size (gotos_in (by kernel_rfl)) (Nat.le_of_ble_eq_true (by kernel_rfl)) (Nat.le_of_ble_eq_true (by kernel_rfl)) K.out).mono ?_
  rintro e w99 hp
  have HC := hid (CodePost.of (code := qtakeCode) BB.out hp (by kernel_rfl))
  obtain ⟨v, rfl, ho⟩ := HC.out
  clear hp
  go_wp2
  go_ret2
  exact ⟨v, rfl, ho⟩
theorem queue_words (N : Nat) (w : World) (h1 : 1 ≤ N) (h8 : N ≤ 8) : Calls Tryd.prog 54 #[.int .i64 (N : Int)] w fun e w' => ∃ v, e = .returned (.tuple #[v, .int .i64 0]) ∧ Ow w w' 3 1 gI v [0] := by
  go_enter Tryd.func54, Tryd.ntmps54
  go_wp2_with fail
  refine (queue_may N w h1 h8).mono ?_
  rintro e w' ⟨rfl, rfl⟩
  go_wp2
  go_ret2
  exact ⟨_, rfl, ⟨⟨rfl, .inr ⟨w.heap.size, 1, #[.int .i64 0], rfl, Nat.le_refl _, Blk.new w _ _, Nat.le_refl _, by simp [maxLen], rfl, rfl⟩⟩, bnew (bnil w) _⟩⟩
end Go.Proofs.YtbcjgnigdddlkaaDoor
