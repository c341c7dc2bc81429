/-
  Codes of package sema: their walks. Written by gen_codes2.py.
-/
import Derived.Test.YtbcjgnigdddlkaaDoorCodes1
namespace Go.Proofs.YtbcjgnigdddlkaaDoor
open Go.RowKit Go.Maps
set_option linter.unusedVariables false

def enterCode : List Op5 := [⟨1, 0, 1, 0, 0⟩, ⟨13, 1, 2, 0, 0⟩, ⟨12, 1, 1, 0, 0⟩, ⟨4, 3, 1, 0, 0⟩, ⟨15, 3, 2, 0, 1⟩, ⟨12, 3, 1, 0, 0⟩]
def leaveCode : List Op5 := [⟨1, 0, 1, 0, 0⟩, ⟨13, 1, 2, 0, 0⟩, ⟨3, 3, 1, 0, 0⟩, ⟨15, 3, 2, 0, 1⟩, ⟨12, 3, 1, 0, 0⟩]
/-- a code, and no error -/
def CodePost2 (w : World) (code : List Op5) (e : Ending) (w' : World) : Prop := ∃ v, e = .returned (.tuple #[v, .int .i64 0]) ∧ Ow w w' 71 5 gO v code
theorem sema_may (room : Nat) (w : World) (h1 : 1 ≤ room) (h4 : room ≤ 4) : Calls Tryd.prog 39 #[.int .i64 (room : Int)] w fun e w' => e = .returned (.bool true) ∧ w = w' := by
  have i1 : (1 : Int) ≤ (room : Int) := by omega
  have i4 : (room : Int) ≤ 4 := by omega
  go_enter Tryd.func39, Tryd.ntmps39
  go_wp2
  go_ret
  exact ⟨rfl, rfl⟩
set_option maxHeartbeats 1000000 in
theorem sema_in (room : Nat) (w : World) (h1 : 1 ≤ room) (h4 : room ≤ 4) : Calls Tryd.prog 40 #[.int .i64 (room : Int), .int .i64 4, .bool true] w fun e w' => CodePost2 w (enterCode) e w' := by
  go_enter Tryd.func40, Tryd.ntmps40
  go_wp2_with fail
  refine (sema_may room w h1 h4).mono ?_
  rintro e w' ⟨rfl, rfl⟩
  go_wp2_with fail
  refine (asm_new w.heap.size [] none 0 0 w (Nat.le_refl _) (by simp) rfl (by decide) (.inl rfl)).mono ?_
  rintro e w1 hp
  obtain ⟨g, rfl, k1, b1, z1⟩ := hp
  have K := hid k1; have BB := hid b1
  clear k1 b1 z1
  go_wp2_with fail
  refine (asm_set w.heap.size g (aregs [] anew) [111, 110, 101] 1 w1 BB.out.size (by decide) (by decide) (by decide) K.out).mono ?_
  rintro e w2 hp
  obtain ⟨rfl, k1, b1, z1⟩ := hp
  have K := hid k1; have BB := hid (BB.out.trans b1)
  clear k1 b1 z1
  go_wp2_with fail
  refine (asm_at w.heap.size g (aset [111, 110, 101] 1 (aregs [] anew)) [97, 103, 97, 105, 110] w2 BB.out.size (by decide) (by decide) (by decide) K.out).mono ?_
  rintro e w3 hp
  obtain ⟨rfl, k1, b1, z1⟩ := hp
  have K := hid k1; have BB := hid (BB.out.trans b1)
  clear k1 b1 z1
  go_wp2_with fail
  refine (asm_word w.heap.size g (aat [97, 103, 97, 105, 110] (aset [111, 110, 101] 1 (aregs [] anew))) 13 [110, 111, 119] [98, 97, 115, 101] 0 w3 BB.out.size (by decide) (by decide) (by decide) (by decide) K.out).mono ?_
  rintro e w4 hp
  obtain ⟨rfl, k1, b1, z1⟩ := hp
  have K := hid k1; have BB := hid (BB.out.trans b1)
  clear k1 b1 z1
  go_wp2_with fail
  refine (asm_if w.heap.size g (aword 13 [110, 111, 119] [98, 97, 115, 101] 0 (aat [97, 103, 97, 105, 110] (aset [111, 110, 101] 1 (aregs [] anew)))) 12 [110, 111, 119] [97, 103, 97, 105, 110] w4 BB.out.size (by decide) (by decide) (by decide) (by decide) K.out).mono ?_
  rintro e w5 hp
  obtain ⟨rfl, k1, b1, z1⟩ := hp
  have K := hid k1; have BB := hid (BB.out.trans b1)
  clear k1 b1 z1
  go_wp2_with fail
  refine (asm_do w.heap.size g (aif 12 [110, 111, 119] [97, 103, 97, 105, 110] (aword 13 [110, 111, 119] [98, 97, 115, 101] 0 (aat [97, 103, 97, 105, 110] (aset [111, 110, 101] 1 (aregs [] anew))))) 4 [110, 101, 120, 116] [110, 111, 119] [111, 110, 101] w5 BB.out.size (by decide) (by decide) (by decide) (by decide) (by decide) K.out).mono ?_
  rintro e w6 hp
  obtain ⟨rfl, k1, b1, z1⟩ := hp
  have K := hid k1; have BB := hid (BB.out.trans b1)
  clear k1 b1 z1
  go_wp2_with fail
  refine (asm_cas w.heap.size g (ado 4 [110, 101, 120, 116] [110, 111, 119] [111, 110, 101] (aif 12 [110, 111, 119] [97, 103, 97, 105, 110] (aword 13 [110, 111, 119] [98, 97, 115, 101] 0 (aat [97, 103, 97, 105, 110] (aset [111, 110, 101] 1 (aregs [] anew)))))) [110, 101, 120, 116] [98, 97, 115, 101] 0 [110, 111, 119] w6 BB.out.size (by decide) (by decide) (by decide) (by decide) (by decide) K.out).mono ?_
  rintro e w7 hp
  obtain ⟨rfl, k1, b1, z1⟩ := hp
  have K := hid k1; have BB := hid (BB.out.trans b1)
  clear k1 b1 z1
  go_wp2_with fail
  refine (asm_if w.heap.size g (acas [110, 101, 120, 116] [98, 97, 115, 101] 0 [110, 111, 119] (ado 4 [110, 101, 120, 116] [110, 111, 119] [111, 110, 101] (aif 12 [110, 111, 119] [97, 103, 97, 105, 110] (aword 13 [110, 111, 119] [98, 97, 115, 101] 0 (aat [97, 103, 97, 105, 110] (aset [111, 110, 101] 1 (aregs [] anew))))))) 12 [110, 101, 120, 116] [97, 103, 97, 105, 110] w7 BB.out.size (by decide) (by decide) (by decide) (by decide) K.out).mono ?_
  rintro e w8 hp
  obtain ⟨rfl, k1, b1, z1⟩ := hp
  have K := hid k1; have BB := hid (BB.out.trans b1)
  clear k1 b1 z1
  go_wp2_with fail
  refine (asm_ops w.heap.size g (aif 12 [110, 101, 120, 116] [97, 103, 97, 105, 110] (acas [110, 101, 120, 116] [98, 97, 115, 101] 0 [110, 111, 119] (ado 4 [110, 101, 120, 116] [110, 111, 119] [111, 110, 101] (aif 12 [110, 111, 119] [97, 103, 97, 105, 110] (aword 13 [110, 111, 119] [98, 97, 115, 101] 0 (aat [97, 103, 97, 105, 110] (aset [111, 110, 101] 1 (aregs [] anew)))))))) w8 BB.out.size (by decide +kernel) (by decide +kernel) (by decide +kernel) K.out).mono ?_
  rintro e w99 hp
  have HC := hid (CodePost.of (code := enterCode) BB.out hp (by decide +kernel))
  obtain ⟨v, rfl, ho⟩ := HC.out
  clear hp
  go_wp2
  go_ret2
  exact ⟨v, rfl, ho⟩
set_option maxHeartbeats 1000000 in
theorem sema_out (room : Nat) (w : World) (h1 : 1 ≤ room) (h4 : room ≤ 4) : Calls Tryd.prog 40 #[.int .i64 (room : Int), .int .i64 3, .bool false] w fun e w' => CodePost2 w (leaveCode) e w' := by
  go_enter Tryd.func40, Tryd.ntmps40
  go_wp2_with fail
  refine (sema_may room w h1 h4).mono ?_
  rintro e w' ⟨rfl, rfl⟩
  go_wp2_with fail
  refine (asm_new w.heap.size [] none 0 0 w (Nat.le_refl _) (by simp) rfl (by decide) (.inl rfl)).mono ?_
  rintro e w1 hp
  obtain ⟨g, rfl, k1, b1, z1⟩ := hp
  have K := hid k1; have BB := hid b1
  clear k1 b1 z1
  go_wp2_with fail
  refine (asm_set w.heap.size g (aregs [] anew) [111, 110, 101] 1 w1 BB.out.size (by decide) (by decide) (by decide) K.out).mono ?_
  rintro e w2 hp
  obtain ⟨rfl, k1, b1, z1⟩ := hp
  have K := hid k1; have BB := hid (BB.out.trans b1)
  clear k1 b1 z1
  go_wp2_with fail
  refine (asm_at w.heap.size g (aset [111, 110, 101] 1 (aregs [] anew)) [97, 103, 97, 105, 110] w2 BB.out.size (by decide) (by decide) (by decide) K.out).mono ?_
  rintro e w3 hp
  obtain ⟨rfl, k1, b1, z1⟩ := hp
  have K := hid k1; have BB := hid (BB.out.trans b1)
  clear k1 b1 z1
  go_wp2_with fail
  refine (asm_word w.heap.size g (aat [97, 103, 97, 105, 110] (aset [111, 110, 101] 1 (aregs [] anew))) 13 [110, 111, 119] [98, 97, 115, 101] 0 w3 BB.out.size (by decide) (by decide) (by decide) (by decide) K.out).mono ?_
  rintro e w4 hp
  obtain ⟨rfl, k1, b1, z1⟩ := hp
  have K := hid k1; have BB := hid (BB.out.trans b1)
  clear k1 b1 z1
  go_wp2_with fail
  refine (asm_do w.heap.size g (aword 13 [110, 111, 119] [98, 97, 115, 101] 0 (aat [97, 103, 97, 105, 110] (aset [111, 110, 101] 1 (aregs [] anew)))) 3 [110, 101, 120, 116] [110, 111, 119] [111, 110, 101] w4 BB.out.size (by decide) (by decide) (by decide) (by decide) (by decide) K.out).mono ?_
  rintro e w5 hp
  obtain ⟨rfl, k1, b1, z1⟩ := hp
  have K := hid k1; have BB := hid (BB.out.trans b1)
  clear k1 b1 z1
  go_wp2_with fail
  refine (asm_cas w.heap.size g (ado 3 [110, 101, 120, 116] [110, 111, 119] [111, 110, 101] (aword 13 [110, 111, 119] [98, 97, 115, 101] 0 (aat [97, 103, 97, 105, 110] (aset [111, 110, 101] 1 (aregs [] anew))))) [110, 101, 120, 116] [98, 97, 115, 101] 0 [110, 111, 119] w5 BB.out.size (by decide) (by decide) (by decide) (by decide) (by decide) K.out).mono ?_
  rintro e w6 hp
  obtain ⟨rfl, k1, b1, z1⟩ := hp
  have K := hid k1; have BB := hid (BB.out.trans b1)
  clear k1 b1 z1
  go_wp2_with fail
  refine (asm_if w.heap.size g (acas [110, 101, 120, 116] [98, 97, 115, 101] 0 [110, 111, 119] (ado 3 [110, 101, 120, 116] [110, 111, 119] [111, 110, 101] (aword 13 [110, 111, 119] [98, 97, 115, 101] 0 (aat [97, 103, 97, 105, 110] (aset [111, 110, 101] 1 (aregs [] anew)))))) 12 [110, 101, 120, 116] [97, 103, 97, 105, 110] w6 BB.out.size (by decide) (by decide) (by decide) (by decide) K.out).mono ?_
  rintro e w7 hp
  obtain ⟨rfl, k1, b1, z1⟩ := hp
  have K := hid k1; have BB := hid (BB.out.trans b1)
  clear k1 b1 z1
  go_wp2_with fail
  refine (asm_ops w.heap.size g (aif 12 [110, 101, 120, 116] [97, 103, 97, 105, 110] (acas [110, 101, 120, 116] [98, 97, 115, 101] 0 [110, 111, 119] (ado 3 [110, 101, 120, 116] [110, 111, 119] [111, 110, 101] (aword 13 [110, 111, 119] [98, 97, 115, 101] 0 (aat [97, 103, 97, 105, 110] (aset [111, 110, 101] 1 (aregs [] anew))))))) w7 BB.out.size (by decide +kernel) (by decide +kernel) (by decide +kernel) K.out).mono ?_
  rintro e w99 hp
  have HC := hid (CodePost.of (code := leaveCode) BB.out hp (by decide +kernel))
  obtain ⟨v, rfl, ho⟩ := HC.out
  clear hp
  go_wp2
  go_ret2
  exact ⟨v, rfl, ho⟩
theorem sema_enter (room : Nat) (w : World) (h1 : 1 ≤ room) (h4 : room ≤ 4) : Calls Tryd.prog 19 #[.int .i64 (room : Int)] w fun e w' => CodePost2 w enterCode e w' := by
  go_enter Tryd.func19, Tryd.ntmps19
  go_wp2_with fail
  refine (sema_in room w h1 h4).mono ?_
  rintro e w1 ⟨v, rfl, ho⟩
  go_wp2
  go_ret2
  exact ⟨v, rfl, ho⟩
theorem sema_leave (room : Nat) (w : World) (h1 : 1 ≤ room) (h4 : room ≤ 4) : Calls Tryd.prog 20 #[.int .i64 (room : Int)] w fun e w' => CodePost2 w leaveCode e w' := by
  go_enter Tryd.func20, Tryd.ntmps20
  go_wp2_with fail
  refine (sema_out room w h1 h4).mono ?_
  rintro e w1 ⟨v, rfl, ho⟩
  go_wp2
  go_ret2
  exact ⟨v, rfl, ho⟩
theorem sema_words (room : Nat) (w : World) (h1 : 1 ≤ room) (h4 : room ≤ 4) : Calls Tryd.prog 18 #[.int .i64 (room : Int)] w fun e w' => ∃ v, e = .returned (.tuple #[v, .int .i64 0]) ∧ Ow w w' 3 1 gI v [(room : Int)] := by
  go_enter Tryd.func18, Tryd.ntmps18
  go_wp2_with fail
  refine (sema_may room w h1 h4).mono ?_
  rintro e w' ⟨rfl, rfl⟩
  go_wp2
  go_ret2
  exact ⟨_, rfl, ⟨⟨rfl, .inr ⟨w.heap.size, 1, #[.int .i64 (room : Int)], rfl, Nat.le_refl _, Blk.new w _ _, Nat.le_refl _, by simp [maxLen], rfl, rfl⟩⟩, bnew (bnil w) _⟩⟩
end Go.Proofs.YtbcjgnigdddlkaaDoor
