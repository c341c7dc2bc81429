/-
  Codes of package barr: their walks. Written by gen_codes4.py.
-/
import Derived.Test.YtnoinojhocicjaaDoorCodes2
namespace Go.Proofs.YtnoinojhocicjaaDoor
open Go.RowKit Go.Maps
set_option linter.unusedVariables false

def waitCode (t : Int) : List Op5 := [⟨1, 1, 1, 0, 0⟩, ⟨1, 2, t, 0, 0⟩, ⟨13, 3, 4, 0, 0⟩, ⟨3, 5, 3, 1, 0⟩, ⟨15, 5, 4, 0, 3⟩, ⟨12, 5, 2, 0, 0⟩, ⟨6, 6, 3, 2, 0⟩, ⟨3, 6, 6, 1, 0⟩, ⟨5, 6, 6, 2, 0⟩, ⟨13, 3, 4, 0, 0⟩, ⟨9, 7, 3, 6, 0⟩, ⟨11, 7, 9, 0, 0⟩]
theorem barr_may (t : Nat) (w : World) (h1 : 1 ≤ t) (h4 : t ≤ 4) : Calls Tryd.prog 74 #[.int .i64 (t : Int)] w fun e w' => e = .returned (.bool true) ∧ w = w' := by
  have i1 : (1 : Int) ≤ (t : Int) := by omega
  have i4 : (t : Int) ≤ 4 := by omega
  go_enter Tryd.func74, Tryd.ntmps74
  go_wp2
  go_ret
  exact ⟨rfl, rfl⟩
set_option maxHeartbeats 1000000 in
theorem barr_wait1 (w : World) : Calls Tryd.prog 55 #[.int .i64 1] w fun e w' => CodePost2 w (waitCode 1) e w' := by
  go_enter Tryd.func55, Tryd.ntmps55
  go_wp2_with fail
  refine (barr_may 1 w (by decide) (by decide)).mono ?_
  rintro e w' ⟨rfl, rfl⟩
  go_wp2_with fail
  refine (asm_new w.heap.size [[109, 101]] (some ⟨w.heap.size, 0, none⟩) 1 1 (w.alloc (.cells #[.string ⟨#[109, 101]⟩] 9)) (bnew (bnil w) _).size (by decide) rfl (by decide) (.inr ⟨_, rfl, Blk.new w _ _⟩)).mono ?_
  rintro e w1 hp
  obtain ⟨g, rfl, k1, b1, z1⟩ := hp
  have K := hid k1; have BB := hid ((bnew (bnil w) (.cells #[.string ⟨#[109, 101]⟩] 9)).trans b1)
  clear k1 b1 z1
  go_wp2_with fail
  refine (asm_set w.heap.size g (aregs [[109, 101]] anew) [111, 110, 101] 1 w1 BB.out.size (by decide) (by decide) (by decide) K.out).mono ?_
  rintro e w2 hp
  obtain ⟨rfl, k1, b1, z1⟩ := hp
  have K := hid k1; have BB := hid (BB.out.trans b1)
  clear k1 b1 z1
  go_wp2_with fail
  refine (asm_set w.heap.size g (aset [111, 110, 101] 1 (aregs [[109, 101]] anew)) [97, 108, 108] 1 w2 BB.out.size (by decide) (by decide) (by decide) K.out).mono ?_
  rintro e w3 hp
  obtain ⟨rfl, k1, b1, z1⟩ := hp
  have K := hid k1; have BB := hid (BB.out.trans b1)
  clear k1 b1 z1
  go_wp2_with fail
  refine (asm_at w.heap.size g (aset [97, 108, 108] 1 (aset [111, 110, 101] 1 (aregs [[109, 101]] anew))) [97, 103, 97, 105, 110] w3 BB.out.size (by decide) (by decide) (by decide) K.out).mono ?_
  rintro e w4 hp
  obtain ⟨rfl, k1, b1, z1⟩ := hp
  have K := hid k1; have BB := hid (BB.out.trans b1)
  clear k1 b1 z1
  go_wp2_with fail
  refine (asm_word w.heap.size g (aat [97, 103, 97, 105, 110] (aset [97, 108, 108] 1 (aset [111, 110, 101] 1 (aregs [[109, 101]] anew)))) 13 [110, 111, 119] [98, 97, 115, 101] 0 w4 BB.out.size (by decide) (by decide) (by decide) (by decide) K.out).mono ?_
  rintro e w5 hp
  obtain ⟨rfl, k1, b1, z1⟩ := hp
  have K := hid k1; have BB := hid (BB.out.trans b1)
  clear k1 b1 z1
  go_wp2_with fail
  refine (asm_do w.heap.size g (aword 13 [110, 111, 119] [98, 97, 115, 101] 0 (aat [97, 103, 97, 105, 110] (aset [97, 108, 108] 1 (aset [111, 110, 101] 1 (aregs [[109, 101]] anew))))) 3 [110, 101, 120, 116] [110, 111, 119] [111, 110, 101] w5 BB.out.size (by decide) (by decide) (by decide) (by decide) (by decide) K.out).mono ?_
  rintro e w6 hp
  obtain ⟨rfl, k1, b1, z1⟩ := hp
  have K := hid k1; have BB := hid (BB.out.trans b1)
  clear k1 b1 z1
  go_wp2_with fail
  refine (asm_cas w.heap.size g (ado 3 [110, 101, 120, 116] [110, 111, 119] [111, 110, 101] (aword 13 [110, 111, 119] [98, 97, 115, 101] 0 (aat [97, 103, 97, 105, 110] (aset [97, 108, 108] 1 (aset [111, 110, 101] 1 (aregs [[109, 101]] anew)))))) [110, 101, 120, 116] [98, 97, 115, 101] 0 [110, 111, 119] w6 BB.out.size (by decide) (by decide) (by decide) (by decide) (by decide) K.out).mono ?_
  rintro e w7 hp
  obtain ⟨rfl, k1, b1, z1⟩ := hp
  have K := hid k1; have BB := hid (BB.out.trans b1)
  clear k1 b1 z1
  go_wp2_with fail
  refine (asm_if w.heap.size g (acas [110, 101, 120, 116] [98, 97, 115, 101] 0 [110, 111, 119] (ado 3 [110, 101, 120, 116] [110, 111, 119] [111, 110, 101] (aword 13 [110, 111, 119] [98, 97, 115, 101] 0 (aat [97, 103, 97, 105, 110] (aset [97, 108, 108] 1 (aset [111, 110, 101] 1 (aregs [[109, 101]] anew))))))) 12 [110, 101, 120, 116] [97, 103, 97, 105, 110] w7 BB.out.size (by decide) (by decide) (by decide) (by decide) K.out).mono ?_
  rintro e w8 hp
  obtain ⟨rfl, k1, b1, z1⟩ := hp
  have K := hid k1; have BB := hid (BB.out.trans b1)
  clear k1 b1 z1
  go_wp2_with fail
  refine (asm_do w.heap.size g (aif 12 [110, 101, 120, 116] [97, 103, 97, 105, 110] (acas [110, 101, 120, 116] [98, 97, 115, 101] 0 [110, 111, 119] (ado 3 [110, 101, 120, 116] [110, 111, 119] [111, 110, 101] (aword 13 [110, 111, 119] [98, 97, 115, 101] 0 (aat [97, 103, 97, 105, 110] (aset [97, 108, 108] 1 (aset [111, 110, 101] 1 (aregs [[109, 101]] anew)))))))) 6 [114, 111, 117, 110, 100] [110, 111, 119] [97, 108, 108] w8 BB.out.size (by decide) (by decide) (by decide) (by decide) (by decide) K.out).mono ?_
  rintro e w9 hp
  obtain ⟨rfl, k1, b1, z1⟩ := hp
  have K := hid k1; have BB := hid (BB.out.trans b1)
  clear k1 b1 z1
  go_wp2_with fail
  refine (asm_do w.heap.size g (ado 6 [114, 111, 117, 110, 100] [110, 111, 119] [97, 108, 108] (aif 12 [110, 101, 120, 116] [97, 103, 97, 105, 110] (acas [110, 101, 120, 116] [98, 97, 115, 101] 0 [110, 111, 119] (ado 3 [110, 101, 120, 116] [110, 111, 119] [111, 110, 101] (aword 13 [110, 111, 119] [98, 97, 115, 101] 0 (aat [97, 103, 97, 105, 110] (aset [97, 108, 108] 1 (aset [111, 110, 101] 1 (aregs [[109, 101]] anew))))))))) 3 [114, 111, 117, 110, 100] [114, 111, 117, 110, 100] [111, 110, 101] w9 BB.out.size (by decide) (by decide) (by decide) (by decide) (by decide) K.out).mono ?_
  rintro e w10 hp
  obtain ⟨rfl, k1, b1, z1⟩ := hp
  have K := hid k1; have BB := hid (BB.out.trans b1)
  clear k1 b1 z1
  go_wp2_with fail
  refine (asm_do w.heap.size g (ado 3 [114, 111, 117, 110, 100] [114, 111, 117, 110, 100] [111, 110, 101] (ado 6 [114, 111, 117, 110, 100] [110, 111, 119] [97, 108, 108] (aif 12 [110, 101, 120, 116] [97, 103, 97, 105, 110] (acas [110, 101, 120, 116] [98, 97, 115, 101] 0 [110, 111, 119] (ado 3 [110, 101, 120, 116] [110, 111, 119] [111, 110, 101] (aword 13 [110, 111, 119] [98, 97, 115, 101] 0 (aat [97, 103, 97, 105, 110] (aset [97, 108, 108] 1 (aset [111, 110, 101] 1 (aregs [[109, 101]] anew)))))))))) 5 [114, 111, 117, 110, 100] [114, 111, 117, 110, 100] [97, 108, 108] w10 BB.out.size (by decide) (by decide) (by decide) (by decide) (by decide) K.out).mono ?_
  rintro e w11 hp
  obtain ⟨rfl, k1, b1, z1⟩ := hp
  have K := hid k1; have BB := hid (BB.out.trans b1)
  clear k1 b1 z1
  go_wp2_with fail
  refine (asm_at w.heap.size g (ado 5 [114, 111, 117, 110, 100] [114, 111, 117, 110, 100] [97, 108, 108] (ado 3 [114, 111, 117, 110, 100] [114, 111, 117, 110, 100] [111, 110, 101] (ado 6 [114, 111, 117, 110, 100] [110, 111, 119] [97, 108, 108] (aif 12 [110, 101, 120, 116] [97, 103, 97, 105, 110] (acas [110, 101, 120, 116] [98, 97, 115, 101] 0 [110, 111, 119] (ado 3 [110, 101, 120, 116] [110, 111, 119] [111, 110, 101] (aword 13 [110, 111, 119] [98, 97, 115, 101] 0 (aat [97, 103, 97, 105, 110] (aset [97, 108, 108] 1 (aset [111, 110, 101] 1 (aregs [[109, 101]] anew))))))))))) [119, 97, 105, 116] w11 BB.out.size (by decide) (by decide) (by decide) K.out).mono ?_
  rintro e w12 hp
  obtain ⟨rfl, k1, b1, z1⟩ := hp
  have K := hid k1; have BB := hid (BB.out.trans b1)
  clear k1 b1 z1
  go_wp2_with fail
  refine (asm_word w.heap.size g (aat [119, 97, 105, 116] (ado 5 [114, 111, 117, 110, 100] [114, 111, 117, 110, 100] [97, 108, 108] (ado 3 [114, 111, 117, 110, 100] [114, 111, 117, 110, 100] [111, 110, 101] (ado 6 [114, 111, 117, 110, 100] [110, 111, 119] [97, 108, 108] (aif 12 [110, 101, 120, 116] [97, 103, 97, 105, 110] (acas [110, 101, 120, 116] [98, 97, 115, 101] 0 [110, 111, 119] (ado 3 [110, 101, 120, 116] [110, 111, 119] [111, 110, 101] (aword 13 [110, 111, 119] [98, 97, 115, 101] 0 (aat [97, 103, 97, 105, 110] (aset [97, 108, 108] 1 (aset [111, 110, 101] 1 (aregs [[109, 101]] anew)))))))))))) 13 [110, 111, 119] [98, 97, 115, 101] 0 w12 BB.out.size (by decide) (by decide) (by decide) (by decide) K.out).mono ?_
  rintro e w13 hp
  obtain ⟨rfl, k1, b1, z1⟩ := hp
  have K := hid k1; have BB := hid (BB.out.trans b1)
  clear k1 b1 z1
  go_wp2_with fail
  refine (asm_do w.heap.size g (aword 13 [110, 111, 119] [98, 97, 115, 101] 0 (aat [119, 97, 105, 116] (ado 5 [114, 111, 117, 110, 100] [114, 111, 117, 110, 100] [97, 108, 108] (ado 3 [114, 111, 117, 110, 100] [114, 111, 117, 110, 100] [111, 110, 101] (ado 6 [114, 111, 117, 110, 100] [110, 111, 119] [97, 108, 108] (aif 12 [110, 101, 120, 116] [97, 103, 97, 105, 110] (acas [110, 101, 120, 116] [98, 97, 115, 101] 0 [110, 111, 119] (ado 3 [110, 101, 120, 116] [110, 111, 119] [111, 110, 101] (aword 13 [110, 111, 119] [98, 97, 115, 101] 0 (aat [97, 103, 97, 105, 110] (aset [97, 108, 108] 1 (aset [111, 110, 101] 1 (aregs [[109, 101]] anew))))))))))))) 9 [108, 101, 115, 115] [110, 111, 119] [114, 111, 117, 110, 100] w13 BB.out.size (by decide) (by decide) (by decide) (by decide) (by decide) K.out).mono ?_
  rintro e w14 hp
  obtain ⟨rfl, k1, b1, z1⟩ := hp
  have K := hid k1; have BB := hid (BB.out.trans b1)
  clear k1 b1 z1
  go_wp2_with fail
  refine (asm_if w.heap.size g (ado 9 [108, 101, 115, 115] [110, 111, 119] [114, 111, 117, 110, 100] (aword 13 [110, 111, 119] [98, 97, 115, 101] 0 (aat [119, 97, 105, 116] (ado 5 [114, 111, 117, 110, 100] [114, 111, 117, 110, 100] [97, 108, 108] (ado 3 [114, 111, 117, 110, 100] [114, 111, 117, 110, 100] [111, 110, 101] (ado 6 [114, 111, 117, 110, 100] [110, 111, 119] [97, 108, 108] (aif 12 [110, 101, 120, 116] [97, 103, 97, 105, 110] (acas [110, 101, 120, 116] [98, 97, 115, 101] 0 [110, 111, 119] (ado 3 [110, 101, 120, 116] [110, 111, 119] [111, 110, 101] (aword 13 [110, 111, 119] [98, 97, 115, 101] 0 (aat [97, 103, 97, 105, 110] (aset [97, 108, 108] 1 (aset [111, 110, 101] 1 (aregs [[109, 101]] anew)))))))))))))) 11 [108, 101, 115, 115] [119, 97, 105, 116] w14 BB.out.size (by decide) (by decide) (by decide) (by decide) K.out).mono ?_
  rintro e w15 hp
  obtain ⟨rfl, k1, b1, z1⟩ := hp
  have K := hid k1; have BB := hid (BB.out.trans b1)
  clear k1 b1 z1
  go_wp2_with fail
  refine (asm_ops w.heap.size g (aif 11 [108, 101, 115, 115] [119, 97, 105, 116] (ado 9 [108, 101, 115, 115] [110, 111, 119] [114, 111, 117, 110, 100] (aword 13 [110, 111, 119] [98, 97, 115, 101] 0 (aat [119, 97, 105, 116] (ado 5 [114, 111, 117, 110, 100] [114, 111, 117, 110, 100] [97, 108, 108] (ado 3 [114, 111, 117, 110, 100] [114, 111, 117, 110, 100] [111, 110, 101] (ado 6 [114, 111, 117, 110, 100] [110, 111, 119] [97, 108, 108] (aif 12 [110, 101, 120, 116] [97, 103, 97, 105, 110] (acas [110, 101, 120, 116] [98, 97, 115, 101] 0 [110, 111, 119] (ado 3 [110, 101, 120, 116] [110, 111, 119] [111, 110, 101] (aword 13 [110, 111, 119] [98, 97, 115, 101] 0 (aat [97, 103, 97, 105, 110] (aset [97, 108, 108] 1 (aset [111, 110, 101] 1 (aregs [[109, 101]] anew))))))))))))))) w15 BB.out.size (by decide +kernel) (by decide +kernel) (by decide +kernel) K.out).mono ?_
  rintro e w99 hp
  have HC := hid (CodePost.of (code := waitCode 1) BB.out hp (by decide +kernel))
  obtain ⟨v, rfl, ho⟩ := HC.out
  clear hp
  go_wp2
  go_ret2
  exact ⟨v, rfl, ho⟩
set_option maxHeartbeats 1000000 in
theorem barr_wait2 (w : World) : Calls Tryd.prog 55 #[.int .i64 2] w fun e w' => CodePost2 w (waitCode 2) e w' := by
  go_enter Tryd.func55, Tryd.ntmps55
  go_wp2_with fail
  refine (barr_may 2 w (by decide) (by decide)).mono ?_
  rintro e w' ⟨rfl, rfl⟩
  go_wp2_with fail
  refine (asm_new w.heap.size [[109, 101]] (some ⟨w.heap.size, 0, none⟩) 1 1 (w.alloc (.cells #[.string ⟨#[109, 101]⟩] 9)) (bnew (bnil w) _).size (by decide) rfl (by decide) (.inr ⟨_, rfl, Blk.new w _ _⟩)).mono ?_
  rintro e w1 hp
  obtain ⟨g, rfl, k1, b1, z1⟩ := hp
  have K := hid k1; have BB := hid ((bnew (bnil w) (.cells #[.string ⟨#[109, 101]⟩] 9)).trans b1)
  clear k1 b1 z1
  go_wp2_with fail
  refine (asm_set w.heap.size g (aregs [[109, 101]] anew) [111, 110, 101] 1 w1 BB.out.size (by decide) (by decide) (by decide) K.out).mono ?_
  rintro e w2 hp
  obtain ⟨rfl, k1, b1, z1⟩ := hp
  have K := hid k1; have BB := hid (BB.out.trans b1)
  clear k1 b1 z1
  go_wp2_with fail
  refine (asm_set w.heap.size g (aset [111, 110, 101] 1 (aregs [[109, 101]] anew)) [97, 108, 108] 2 w2 BB.out.size (by decide) (by decide) (by decide) K.out).mono ?_
  rintro e w3 hp
  obtain ⟨rfl, k1, b1, z1⟩ := hp
  have K := hid k1; have BB := hid (BB.out.trans b1)
  clear k1 b1 z1
  go_wp2_with fail
  refine (asm_at w.heap.size g (aset [97, 108, 108] 2 (aset [111, 110, 101] 1 (aregs [[109, 101]] anew))) [97, 103, 97, 105, 110] w3 BB.out.size (by decide) (by decide) (by decide) K.out).mono ?_
  rintro e w4 hp
  obtain ⟨rfl, k1, b1, z1⟩ := hp
  have K := hid k1; have BB := hid (BB.out.trans b1)
  clear k1 b1 z1
  go_wp2_with fail
  refine (asm_word w.heap.size g (aat [97, 103, 97, 105, 110] (aset [97, 108, 108] 2 (aset [111, 110, 101] 1 (aregs [[109, 101]] anew)))) 13 [110, 111, 119] [98, 97, 115, 101] 0 w4 BB.out.size (by decide) (by decide) (by decide) (by decide) K.out).mono ?_
  rintro e w5 hp
  obtain ⟨rfl, k1, b1, z1⟩ := hp
  have K := hid k1; have BB := hid (BB.out.trans b1)
  clear k1 b1 z1
  go_wp2_with fail
  refine (asm_do w.heap.size g (aword 13 [110, 111, 119] [98, 97, 115, 101] 0 (aat [97, 103, 97, 105, 110] (aset [97, 108, 108] 2 (aset [111, 110, 101] 1 (aregs [[109, 101]] anew))))) 3 [110, 101, 120, 116] [110, 111, 119] [111, 110, 101] w5 BB.out.size (by decide) (by decide) (by decide) (by decide) (by decide) K.out).mono ?_
  rintro e w6 hp
  obtain ⟨rfl, k1, b1, z1⟩ := hp
  have K := hid k1; have BB := hid (BB.out.trans b1)
  clear k1 b1 z1
  go_wp2_with fail
  refine (asm_cas w.heap.size g (ado 3 [110, 101, 120, 116] [110, 111, 119] [111, 110, 101] (aword 13 [110, 111, 119] [98, 97, 115, 101] 0 (aat [97, 103, 97, 105, 110] (aset [97, 108, 108] 2 (aset [111, 110, 101] 1 (aregs [[109, 101]] anew)))))) [110, 101, 120, 116] [98, 97, 115, 101] 0 [110, 111, 119] w6 BB.out.size (by decide) (by decide) (by decide) (by decide) (by decide) K.out).mono ?_
  rintro e w7 hp
  obtain ⟨rfl, k1, b1, z1⟩ := hp
  have K := hid k1; have BB := hid (BB.out.trans b1)
  clear k1 b1 z1
  go_wp2_with fail
  refine (asm_if w.heap.size g (acas [110, 101, 120, 116] [98, 97, 115, 101] 0 [110, 111, 119] (ado 3 [110, 101, 120, 116] [110, 111, 119] [111, 110, 101] (aword 13 [110, 111, 119] [98, 97, 115, 101] 0 (aat [97, 103, 97, 105, 110] (aset [97, 108, 108] 2 (aset [111, 110, 101] 1 (aregs [[109, 101]] anew))))))) 12 [110, 101, 120, 116] [97, 103, 97, 105, 110] w7 BB.out.size (by decide) (by decide) (by decide) (by decide) K.out).mono ?_
  rintro e w8 hp
  obtain ⟨rfl, k1, b1, z1⟩ := hp
  have K := hid k1; have BB := hid (BB.out.trans b1)
  clear k1 b1 z1
  go_wp2_with fail
  refine (asm_do w.heap.size g (aif 12 [110, 101, 120, 116] [97, 103, 97, 105, 110] (acas [110, 101, 120, 116] [98, 97, 115, 101] 0 [110, 111, 119] (ado 3 [110, 101, 120, 116] [110, 111, 119] [111, 110, 101] (aword 13 [110, 111, 119] [98, 97, 115, 101] 0 (aat [97, 103, 97, 105, 110] (aset [97, 108, 108] 2 (aset [111, 110, 101] 1 (aregs [[109, 101]] anew)))))))) 6 [114, 111, 117, 110, 100] [110, 111, 119] [97, 108, 108] w8 BB.out.size (by decide) (by decide) (by decide) (by decide) (by decide) K.out).mono ?_
  rintro e w9 hp
  obtain ⟨rfl, k1, b1, z1⟩ := hp
  have K := hid k1; have BB := hid (BB.out.trans b1)
  clear k1 b1 z1
  go_wp2_with fail
  refine (asm_do w.heap.size g (ado 6 [114, 111, 117, 110, 100] [110, 111, 119] [97, 108, 108] (aif 12 [110, 101, 120, 116] [97, 103, 97, 105, 110] (acas [110, 101, 120, 116] [98, 97, 115, 101] 0 [110, 111, 119] (ado 3 [110, 101, 120, 116] [110, 111, 119] [111, 110, 101] (aword 13 [110, 111, 119] [98, 97, 115, 101] 0 (aat [97, 103, 97, 105, 110] (aset [97, 108, 108] 2 (aset [111, 110, 101] 1 (aregs [[109, 101]] anew))))))))) 3 [114, 111, 117, 110, 100] [114, 111, 117, 110, 100] [111, 110, 101] w9 BB.out.size (by decide) (by decide) (by decide) (by decide) (by decide) K.out).mono ?_
  rintro e w10 hp
  obtain ⟨rfl, k1, b1, z1⟩ := hp
  have K := hid k1; have BB := hid (BB.out.trans b1)
  clear k1 b1 z1
  go_wp2_with fail
  refine (asm_do w.heap.size g (ado 3 [114, 111, 117, 110, 100] [114, 111, 117, 110, 100] [111, 110, 101] (ado 6 [114, 111, 117, 110, 100] [110, 111, 119] [97, 108, 108] (aif 12 [110, 101, 120, 116] [97, 103, 97, 105, 110] (acas [110, 101, 120, 116] [98, 97, 115, 101] 0 [110, 111, 119] (ado 3 [110, 101, 120, 116] [110, 111, 119] [111, 110, 101] (aword 13 [110, 111, 119] [98, 97, 115, 101] 0 (aat [97, 103, 97, 105, 110] (aset [97, 108, 108] 2 (aset [111, 110, 101] 1 (aregs [[109, 101]] anew)))))))))) 5 [114, 111, 117, 110, 100] [114, 111, 117, 110, 100] [97, 108, 108] w10 BB.out.size (by decide) (by decide) (by decide) (by decide) (by decide) K.out).mono ?_
  rintro e w11 hp
  obtain ⟨rfl, k1, b1, z1⟩ := hp
  have K := hid k1; have BB := hid (BB.out.trans b1)
  clear k1 b1 z1
  go_wp2_with fail
  refine (asm_at w.heap.size g (ado 5 [114, 111, 117, 110, 100] [114, 111, 117, 110, 100] [97, 108, 108] (ado 3 [114, 111, 117, 110, 100] [114, 111, 117, 110, 100] [111, 110, 101] (ado 6 [114, 111, 117, 110, 100] [110, 111, 119] [97, 108, 108] (aif 12 [110, 101, 120, 116] [97, 103, 97, 105, 110] (acas [110, 101, 120, 116] [98, 97, 115, 101] 0 [110, 111, 119] (ado 3 [110, 101, 120, 116] [110, 111, 119] [111, 110, 101] (aword 13 [110, 111, 119] [98, 97, 115, 101] 0 (aat [97, 103, 97, 105, 110] (aset [97, 108, 108] 2 (aset [111, 110, 101] 1 (aregs [[109, 101]] anew))))))))))) [119, 97, 105, 116] w11 BB.out.size (by decide) (by decide) (by decide) K.out).mono ?_
  rintro e w12 hp
  obtain ⟨rfl, k1, b1, z1⟩ := hp
  have K := hid k1; have BB := hid (BB.out.trans b1)
  clear k1 b1 z1
  go_wp2_with fail
  refine (asm_word w.heap.size g (aat [119, 97, 105, 116] (ado 5 [114, 111, 117, 110, 100] [114, 111, 117, 110, 100] [97, 108, 108] (ado 3 [114, 111, 117, 110, 100] [114, 111, 117, 110, 100] [111, 110, 101] (ado 6 [114, 111, 117, 110, 100] [110, 111, 119] [97, 108, 108] (aif 12 [110, 101, 120, 116] [97, 103, 97, 105, 110] (acas [110, 101, 120, 116] [98, 97, 115, 101] 0 [110, 111, 119] (ado 3 [110, 101, 120, 116] [110, 111, 119] [111, 110, 101] (aword 13 [110, 111, 119] [98, 97, 115, 101] 0 (aat [97, 103, 97, 105, 110] (aset [97, 108, 108] 2 (aset [111, 110, 101] 1 (aregs [[109, 101]] anew)))))))))))) 13 [110, 111, 119] [98, 97, 115, 101] 0 w12 BB.out.size (by decide) (by decide) (by decide) (by decide) K.out).mono ?_
  rintro e w13 hp
  obtain ⟨rfl, k1, b1, z1⟩ := hp
  have K := hid k1; have BB := hid (BB.out.trans b1)
  clear k1 b1 z1
  go_wp2_with fail
  refine (asm_do w.heap.size g (aword 13 [110, 111, 119] [98, 97, 115, 101] 0 (aat [119, 97, 105, 116] (ado 5 [114, 111, 117, 110, 100] [114, 111, 117, 110, 100] [97, 108, 108] (ado 3 [114, 111, 117, 110, 100] [114, 111, 117, 110, 100] [111, 110, 101] (ado 6 [114, 111, 117, 110, 100] [110, 111, 119] [97, 108, 108] (aif 12 [110, 101, 120, 116] [97, 103, 97, 105, 110] (acas [110, 101, 120, 116] [98, 97, 115, 101] 0 [110, 111, 119] (ado 3 [110, 101, 120, 116] [110, 111, 119] [111, 110, 101] (aword 13 [110, 111, 119] [98, 97, 115, 101] 0 (aat [97, 103, 97, 105, 110] (aset [97, 108, 108] 2 (aset [111, 110, 101] 1 (aregs [[109, 101]] anew))))))))))))) 9 [108, 101, 115, 115] [110, 111, 119] [114, 111, 117, 110, 100] w13 BB.out.size (by decide) (by decide) (by decide) (by decide) (by decide) K.out).mono ?_
  rintro e w14 hp
  obtain ⟨rfl, k1, b1, z1⟩ := hp
  have K := hid k1; have BB := hid (BB.out.trans b1)
  clear k1 b1 z1
  go_wp2_with fail
  refine (asm_if w.heap.size g (ado 9 [108, 101, 115, 115] [110, 111, 119] [114, 111, 117, 110, 100] (aword 13 [110, 111, 119] [98, 97, 115, 101] 0 (aat [119, 97, 105, 116] (ado 5 [114, 111, 117, 110, 100] [114, 111, 117, 110, 100] [97, 108, 108] (ado 3 [114, 111, 117, 110, 100] [114, 111, 117, 110, 100] [111, 110, 101] (ado 6 [114, 111, 117, 110, 100] [110, 111, 119] [97, 108, 108] (aif 12 [110, 101, 120, 116] [97, 103, 97, 105, 110] (acas [110, 101, 120, 116] [98, 97, 115, 101] 0 [110, 111, 119] (ado 3 [110, 101, 120, 116] [110, 111, 119] [111, 110, 101] (aword 13 [110, 111, 119] [98, 97, 115, 101] 0 (aat [97, 103, 97, 105, 110] (aset [97, 108, 108] 2 (aset [111, 110, 101] 1 (aregs [[109, 101]] anew)))))))))))))) 11 [108, 101, 115, 115] [119, 97, 105, 116] w14 BB.out.size (by decide) (by decide) (by decide) (by decide) K.out).mono ?_
  rintro e w15 hp
  obtain ⟨rfl, k1, b1, z1⟩ := hp
  have K := hid k1; have BB := hid (BB.out.trans b1)
  clear k1 b1 z1
  go_wp2_with fail
  refine (asm_ops w.heap.size g (aif 11 [108, 101, 115, 115] [119, 97, 105, 116] (ado 9 [108, 101, 115, 115] [110, 111, 119] [114, 111, 117, 110, 100] (aword 13 [110, 111, 119] [98, 97, 115, 101] 0 (aat [119, 97, 105, 116] (ado 5 [114, 111, 117, 110, 100] [114, 111, 117, 110, 100] [97, 108, 108] (ado 3 [114, 111, 117, 110, 100] [114, 111, 117, 110, 100] [111, 110, 101] (ado 6 [114, 111, 117, 110, 100] [110, 111, 119] [97, 108, 108] (aif 12 [110, 101, 120, 116] [97, 103, 97, 105, 110] (acas [110, 101, 120, 116] [98, 97, 115, 101] 0 [110, 111, 119] (ado 3 [110, 101, 120, 116] [110, 111, 119] [111, 110, 101] (aword 13 [110, 111, 119] [98, 97, 115, 101] 0 (aat [97, 103, 97, 105, 110] (aset [97, 108, 108] 2 (aset [111, 110, 101] 1 (aregs [[109, 101]] anew))))))))))))))) w15 BB.out.size (by decide +kernel) (by decide +kernel) (by decide +kernel) K.out).mono ?_
  rintro e w99 hp
  have HC := hid (CodePost.of (code := waitCode 2) BB.out hp (by decide +kernel))
  obtain ⟨v, rfl, ho⟩ := HC.out
  clear hp
  go_wp2
  go_ret2
  exact ⟨v, rfl, ho⟩
set_option maxHeartbeats 1000000 in
theorem barr_wait3 (w : World) : Calls Tryd.prog 55 #[.int .i64 3] w fun e w' => CodePost2 w (waitCode 3) e w' := by
  go_enter Tryd.func55, Tryd.ntmps55
  go_wp2_with fail
  refine (barr_may 3 w (by decide) (by decide)).mono ?_
  rintro e w' ⟨rfl, rfl⟩
  go_wp2_with fail
  refine (asm_new w.heap.size [[109, 101]] (some ⟨w.heap.size, 0, none⟩) 1 1 (w.alloc (.cells #[.string ⟨#[109, 101]⟩] 9)) (bnew (bnil w) _).size (by decide) rfl (by decide) (.inr ⟨_, rfl, Blk.new w _ _⟩)).mono ?_
  rintro e w1 hp
  obtain ⟨g, rfl, k1, b1, z1⟩ := hp
  have K := hid k1; have BB := hid ((bnew (bnil w) (.cells #[.string ⟨#[109, 101]⟩] 9)).trans b1)
  clear k1 b1 z1
  go_wp2_with fail
  refine (asm_set w.heap.size g (aregs [[109, 101]] anew) [111, 110, 101] 1 w1 BB.out.size (by decide) (by decide) (by decide) K.out).mono ?_
  rintro e w2 hp
  obtain ⟨rfl, k1, b1, z1⟩ := hp
  have K := hid k1; have BB := hid (BB.out.trans b1)
  clear k1 b1 z1
  go_wp2_with fail
  refine (asm_set w.heap.size g (aset [111, 110, 101] 1 (aregs [[109, 101]] anew)) [97, 108, 108] 3 w2 BB.out.size (by decide) (by decide) (by decide) K.out).mono ?_
  rintro e w3 hp
  obtain ⟨rfl, k1, b1, z1⟩ := hp
  have K := hid k1; have BB := hid (BB.out.trans b1)
  clear k1 b1 z1
  go_wp2_with fail
  refine (asm_at w.heap.size g (aset [97, 108, 108] 3 (aset [111, 110, 101] 1 (aregs [[109, 101]] anew))) [97, 103, 97, 105, 110] w3 BB.out.size (by decide) (by decide) (by decide) K.out).mono ?_
  rintro e w4 hp
  obtain ⟨rfl, k1, b1, z1⟩ := hp
  have K := hid k1; have BB := hid (BB.out.trans b1)
  clear k1 b1 z1
  go_wp2_with fail
  refine (asm_word w.heap.size g (aat [97, 103, 97, 105, 110] (aset [97, 108, 108] 3 (aset [111, 110, 101] 1 (aregs [[109, 101]] anew)))) 13 [110, 111, 119] [98, 97, 115, 101] 0 w4 BB.out.size (by decide) (by decide) (by decide) (by decide) K.out).mono ?_
  rintro e w5 hp
  obtain ⟨rfl, k1, b1, z1⟩ := hp
  have K := hid k1; have BB := hid (BB.out.trans b1)
  clear k1 b1 z1
  go_wp2_with fail
  refine (asm_do w.heap.size g (aword 13 [110, 111, 119] [98, 97, 115, 101] 0 (aat [97, 103, 97, 105, 110] (aset [97, 108, 108] 3 (aset [111, 110, 101] 1 (aregs [[109, 101]] anew))))) 3 [110, 101, 120, 116] [110, 111, 119] [111, 110, 101] w5 BB.out.size (by decide) (by decide) (by decide) (by decide) (by decide) K.out).mono ?_
  rintro e w6 hp
  obtain ⟨rfl, k1, b1, z1⟩ := hp
  have K := hid k1; have BB := hid (BB.out.trans b1)
  clear k1 b1 z1
  go_wp2_with fail
  refine (asm_cas w.heap.size g (ado 3 [110, 101, 120, 116] [110, 111, 119] [111, 110, 101] (aword 13 [110, 111, 119] [98, 97, 115, 101] 0 (aat [97, 103, 97, 105, 110] (aset [97, 108, 108] 3 (aset [111, 110, 101] 1 (aregs [[109, 101]] anew)))))) [110, 101, 120, 116] [98, 97, 115, 101] 0 [110, 111, 119] w6 BB.out.size (by decide) (by decide) (by decide) (by decide) (by decide) K.out).mono ?_
  rintro e w7 hp
  obtain ⟨rfl, k1, b1, z1⟩ := hp
  have K := hid k1; have BB := hid (BB.out.trans b1)
  clear k1 b1 z1
  go_wp2_with fail
  refine (asm_if w.heap.size g (acas [110, 101, 120, 116] [98, 97, 115, 101] 0 [110, 111, 119] (ado 3 [110, 101, 120, 116] [110, 111, 119] [111, 110, 101] (aword 13 [110, 111, 119] [98, 97, 115, 101] 0 (aat [97, 103, 97, 105, 110] (aset [97, 108, 108] 3 (aset [111, 110, 101] 1 (aregs [[109, 101]] anew))))))) 12 [110, 101, 120, 116] [97, 103, 97, 105, 110] w7 BB.out.size (by decide) (by decide) (by decide) (by decide) K.out).mono ?_
  rintro e w8 hp
  obtain ⟨rfl, k1, b1, z1⟩ := hp
  have K := hid k1; have BB := hid (BB.out.trans b1)
  clear k1 b1 z1
  go_wp2_with fail
  refine (asm_do w.heap.size g (aif 12 [110, 101, 120, 116] [97, 103, 97, 105, 110] (acas [110, 101, 120, 116] [98, 97, 115, 101] 0 [110, 111, 119] (ado 3 [110, 101, 120, 116] [110, 111, 119] [111, 110, 101] (aword 13 [110, 111, 119] [98, 97, 115, 101] 0 (aat [97, 103, 97, 105, 110] (aset [97, 108, 108] 3 (aset [111, 110, 101] 1 (aregs [[109, 101]] anew)))))))) 6 [114, 111, 117, 110, 100] [110, 111, 119] [97, 108, 108] w8 BB.out.size (by decide) (by decide) (by decide) (by decide) (by decide) K.out).mono ?_
  rintro e w9 hp
  obtain ⟨rfl, k1, b1, z1⟩ := hp
  have K := hid k1; have BB := hid (BB.out.trans b1)
  clear k1 b1 z1
  go_wp2_with fail
  refine (asm_do w.heap.size g (ado 6 [114, 111, 117, 110, 100] [110, 111, 119] [97, 108, 108] (aif 12 [110, 101, 120, 116] [97, 103, 97, 105, 110] (acas [110, 101, 120, 116] [98, 97, 115, 101] 0 [110, 111, 119] (ado 3 [110, 101, 120, 116] [110, 111, 119] [111, 110, 101] (aword 13 [110, 111, 119] [98, 97, 115, 101] 0 (aat [97, 103, 97, 105, 110] (aset [97, 108, 108] 3 (aset [111, 110, 101] 1 (aregs [[109, 101]] anew))))))))) 3 [114, 111, 117, 110, 100] [114, 111, 117, 110, 100] [111, 110, 101] w9 BB.out.size (by decide) (by decide) (by decide) (by decide) (by decide) K.out).mono ?_
  rintro e w10 hp
  obtain ⟨rfl, k1, b1, z1⟩ := hp
  have K := hid k1; have BB := hid (BB.out.trans b1)
  clear k1 b1 z1
  go_wp2_with fail
  refine (asm_do w.heap.size g (ado 3 [114, 111, 117, 110, 100] [114, 111, 117, 110, 100] [111, 110, 101] (ado 6 [114, 111, 117, 110, 100] [110, 111, 119] [97, 108, 108] (aif 12 [110, 101, 120, 116] [97, 103, 97, 105, 110] (acas [110, 101, 120, 116] [98, 97, 115, 101] 0 [110, 111, 119] (ado 3 [110, 101, 120, 116] [110, 111, 119] [111, 110, 101] (aword 13 [110, 111, 119] [98, 97, 115, 101] 0 (aat [97, 103, 97, 105, 110] (aset [97, 108, 108] 3 (aset [111, 110, 101] 1 (aregs [[109, 101]] anew)))))))))) 5 [114, 111, 117, 110, 100] [114, 111, 117, 110, 100] [97, 108, 108] w10 BB.out.size (by decide) (by decide) (by decide) (by decide) (by decide) K.out).mono ?_
  rintro e w11 hp
  obtain ⟨rfl, k1, b1, z1⟩ := hp
  have K := hid k1; have BB := hid (BB.out.trans b1)
  clear k1 b1 z1
  go_wp2_with fail
  refine (asm_at w.heap.size g (ado 5 [114, 111, 117, 110, 100] [114, 111, 117, 110, 100] [97, 108, 108] (ado 3 [114, 111, 117, 110, 100] [114, 111, 117, 110, 100] [111, 110, 101] (ado 6 [114, 111, 117, 110, 100] [110, 111, 119] [97, 108, 108] (aif 12 [110, 101, 120, 116] [97, 103, 97, 105, 110] (acas [110, 101, 120, 116] [98, 97, 115, 101] 0 [110, 111, 119] (ado 3 [110, 101, 120, 116] [110, 111, 119] [111, 110, 101] (aword 13 [110, 111, 119] [98, 97, 115, 101] 0 (aat [97, 103, 97, 105, 110] (aset [97, 108, 108] 3 (aset [111, 110, 101] 1 (aregs [[109, 101]] anew))))))))))) [119, 97, 105, 116] w11 BB.out.size (by decide) (by decide) (by decide) K.out).mono ?_
  rintro e w12 hp
  obtain ⟨rfl, k1, b1, z1⟩ := hp
  have K := hid k1; have BB := hid (BB.out.trans b1)
  clear k1 b1 z1
  go_wp2_with fail
  refine (asm_word w.heap.size g (aat [119, 97, 105, 116] (ado 5 [114, 111, 117, 110, 100] [114, 111, 117, 110, 100] [97, 108, 108] (ado 3 [114, 111, 117, 110, 100] [114, 111, 117, 110, 100] [111, 110, 101] (ado 6 [114, 111, 117, 110, 100] [110, 111, 119] [97, 108, 108] (aif 12 [110, 101, 120, 116] [97, 103, 97, 105, 110] (acas [110, 101, 120, 116] [98, 97, 115, 101] 0 [110, 111, 119] (ado 3 [110, 101, 120, 116] [110, 111, 119] [111, 110, 101] (aword 13 [110, 111, 119] [98, 97, 115, 101] 0 (aat [97, 103, 97, 105, 110] (aset [97, 108, 108] 3 (aset [111, 110, 101] 1 (aregs [[109, 101]] anew)))))))))))) 13 [110, 111, 119] [98, 97, 115, 101] 0 w12 BB.out.size (by decide) (by decide) (by decide) (by decide) K.out).mono ?_
  rintro e w13 hp
  obtain ⟨rfl, k1, b1, z1⟩ := hp
  have K := hid k1; have BB := hid (BB.out.trans b1)
  clear k1 b1 z1
  go_wp2_with fail
  refine (asm_do w.heap.size g (aword 13 [110, 111, 119] [98, 97, 115, 101] 0 (aat [119, 97, 105, 116] (ado 5 [114, 111, 117, 110, 100] [114, 111, 117, 110, 100] [97, 108, 108] (ado 3 [114, 111, 117, 110, 100] [114, 111, 117, 110, 100] [111, 110, 101] (ado 6 [114, 111, 117, 110, 100] [110, 111, 119] [97, 108, 108] (aif 12 [110, 101, 120, 116] [97, 103, 97, 105, 110] (acas [110, 101, 120, 116] [98, 97, 115, 101] 0 [110, 111, 119] (ado 3 [110, 101, 120, 116] [110, 111, 119] [111, 110, 101] (aword 13 [110, 111, 119] [98, 97, 115, 101] 0 (aat [97, 103, 97, 105, 110] (aset [97, 108, 108] 3 (aset [111, 110, 101] 1 (aregs [[109, 101]] anew))))))))))))) 9 [108, 101, 115, 115] [110, 111, 119] [114, 111, 117, 110, 100] w13 BB.out.size (by decide) (by decide) (by decide) (by decide) (by decide) K.out).mono ?_
  rintro e w14 hp
  obtain ⟨rfl, k1, b1, z1⟩ := hp
  have K := hid k1; have BB := hid (BB.out.trans b1)
  clear k1 b1 z1
  go_wp2_with fail
  refine (asm_if w.heap.size g (ado 9 [108, 101, 115, 115] [110, 111, 119] [114, 111, 117, 110, 100] (aword 13 [110, 111, 119] [98, 97, 115, 101] 0 (aat [119, 97, 105, 116] (ado 5 [114, 111, 117, 110, 100] [114, 111, 117, 110, 100] [97, 108, 108] (ado 3 [114, 111, 117, 110, 100] [114, 111, 117, 110, 100] [111, 110, 101] (ado 6 [114, 111, 117, 110, 100] [110, 111, 119] [97, 108, 108] (aif 12 [110, 101, 120, 116] [97, 103, 97, 105, 110] (acas [110, 101, 120, 116] [98, 97, 115, 101] 0 [110, 111, 119] (ado 3 [110, 101, 120, 116] [110, 111, 119] [111, 110, 101] (aword 13 [110, 111, 119] [98, 97, 115, 101] 0 (aat [97, 103, 97, 105, 110] (aset [97, 108, 108] 3 (aset [111, 110, 101] 1 (aregs [[109, 101]] anew)))))))))))))) 11 [108, 101, 115, 115] [119, 97, 105, 116] w14 BB.out.size (by decide) (by decide) (by decide) (by decide) K.out).mono ?_
  rintro e w15 hp
  obtain ⟨rfl, k1, b1, z1⟩ := hp
  have K := hid k1; have BB := hid (BB.out.trans b1)
  clear k1 b1 z1
  go_wp2_with fail
  refine (asm_ops w.heap.size g (aif 11 [108, 101, 115, 115] [119, 97, 105, 116] (ado 9 [108, 101, 115, 115] [110, 111, 119] [114, 111, 117, 110, 100] (aword 13 [110, 111, 119] [98, 97, 115, 101] 0 (aat [119, 97, 105, 116] (ado 5 [114, 111, 117, 110, 100] [114, 111, 117, 110, 100] [97, 108, 108] (ado 3 [114, 111, 117, 110, 100] [114, 111, 117, 110, 100] [111, 110, 101] (ado 6 [114, 111, 117, 110, 100] [110, 111, 119] [97, 108, 108] (aif 12 [110, 101, 120, 116] [97, 103, 97, 105, 110] (acas [110, 101, 120, 116] [98, 97, 115, 101] 0 [110, 111, 119] (ado 3 [110, 101, 120, 116] [110, 111, 119] [111, 110, 101] (aword 13 [110, 111, 119] [98, 97, 115, 101] 0 (aat [97, 103, 97, 105, 110] (aset [97, 108, 108] 3 (aset [111, 110, 101] 1 (aregs [[109, 101]] anew))))))))))))))) w15 BB.out.size (by decide +kernel) (by decide +kernel) (by decide +kernel) K.out).mono ?_
  rintro e w99 hp
  have HC := hid (CodePost.of (code := waitCode 3) BB.out hp (by decide +kernel))
  obtain ⟨v, rfl, ho⟩ := HC.out
  clear hp
  go_wp2
  go_ret2
  exact ⟨v, rfl, ho⟩
set_option maxHeartbeats 1000000 in
theorem barr_wait4 (w : World) : Calls Tryd.prog 55 #[.int .i64 4] w fun e w' => CodePost2 w (waitCode 4) e w' := by
  go_enter Tryd.func55, Tryd.ntmps55
  go_wp2_with fail
  refine (barr_may 4 w (by decide) (by decide)).mono ?_
  rintro e w' ⟨rfl, rfl⟩
  go_wp2_with fail
  refine (asm_new w.heap.size [[109, 101]] (some ⟨w.heap.size, 0, none⟩) 1 1 (w.alloc (.cells #[.string ⟨#[109, 101]⟩] 9)) (bnew (bnil w) _).size (by decide) rfl (by decide) (.inr ⟨_, rfl, Blk.new w _ _⟩)).mono ?_
  rintro e w1 hp
  obtain ⟨g, rfl, k1, b1, z1⟩ := hp
  have K := hid k1; have BB := hid ((bnew (bnil w) (.cells #[.string ⟨#[109, 101]⟩] 9)).trans b1)
  clear k1 b1 z1
  go_wp2_with fail
  refine (asm_set w.heap.size g (aregs [[109, 101]] anew) [111, 110, 101] 1 w1 BB.out.size (by decide) (by decide) (by decide) K.out).mono ?_
  rintro e w2 hp
  obtain ⟨rfl, k1, b1, z1⟩ := hp
  have K := hid k1; have BB := hid (BB.out.trans b1)
  clear k1 b1 z1
  go_wp2_with fail
  refine (asm_set w.heap.size g (aset [111, 110, 101] 1 (aregs [[109, 101]] anew)) [97, 108, 108] 4 w2 BB.out.size (by decide) (by decide) (by decide) K.out).mono ?_
  rintro e w3 hp
  obtain ⟨rfl, k1, b1, z1⟩ := hp
  have K := hid k1; have BB := hid (BB.out.trans b1)
  clear k1 b1 z1
  go_wp2_with fail
  refine (asm_at w.heap.size g (aset [97, 108, 108] 4 (aset [111, 110, 101] 1 (aregs [[109, 101]] anew))) [97, 103, 97, 105, 110] w3 BB.out.size (by decide) (by decide) (by decide) K.out).mono ?_
  rintro e w4 hp
  obtain ⟨rfl, k1, b1, z1⟩ := hp
  have K := hid k1; have BB := hid (BB.out.trans b1)
  clear k1 b1 z1
  go_wp2_with fail
  refine (asm_word w.heap.size g (aat [97, 103, 97, 105, 110] (aset [97, 108, 108] 4 (aset [111, 110, 101] 1 (aregs [[109, 101]] anew)))) 13 [110, 111, 119] [98, 97, 115, 101] 0 w4 BB.out.size (by decide) (by decide) (by decide) (by decide) K.out).mono ?_
  rintro e w5 hp
  obtain ⟨rfl, k1, b1, z1⟩ := hp
  have K := hid k1; have BB := hid (BB.out.trans b1)
  clear k1 b1 z1
  go_wp2_with fail
  refine (asm_do w.heap.size g (aword 13 [110, 111, 119] [98, 97, 115, 101] 0 (aat [97, 103, 97, 105, 110] (aset [97, 108, 108] 4 (aset [111, 110, 101] 1 (aregs [[109, 101]] anew))))) 3 [110, 101, 120, 116] [110, 111, 119] [111, 110, 101] w5 BB.out.size (by decide) (by decide) (by decide) (by decide) (by decide) K.out).mono ?_
  rintro e w6 hp
  obtain ⟨rfl, k1, b1, z1⟩ := hp
  have K := hid k1; have BB := hid (BB.out.trans b1)
  clear k1 b1 z1
  go_wp2_with fail
  refine (asm_cas w.heap.size g (ado 3 [110, 101, 120, 116] [110, 111, 119] [111, 110, 101] (aword 13 [110, 111, 119] [98, 97, 115, 101] 0 (aat [97, 103, 97, 105, 110] (aset [97, 108, 108] 4 (aset [111, 110, 101] 1 (aregs [[109, 101]] anew)))))) [110, 101, 120, 116] [98, 97, 115, 101] 0 [110, 111, 119] w6 BB.out.size (by decide) (by decide) (by decide) (by decide) (by decide) K.out).mono ?_
  rintro e w7 hp
  obtain ⟨rfl, k1, b1, z1⟩ := hp
  have K := hid k1; have BB := hid (BB.out.trans b1)
  clear k1 b1 z1
  go_wp2_with fail
  refine (asm_if w.heap.size g (acas [110, 101, 120, 116] [98, 97, 115, 101] 0 [110, 111, 119] (ado 3 [110, 101, 120, 116] [110, 111, 119] [111, 110, 101] (aword 13 [110, 111, 119] [98, 97, 115, 101] 0 (aat [97, 103, 97, 105, 110] (aset [97, 108, 108] 4 (aset [111, 110, 101] 1 (aregs [[109, 101]] anew))))))) 12 [110, 101, 120, 116] [97, 103, 97, 105, 110] w7 BB.out.size (by decide) (by decide) (by decide) (by decide) K.out).mono ?_
  rintro e w8 hp
  obtain ⟨rfl, k1, b1, z1⟩ := hp
  have K := hid k1; have BB := hid (BB.out.trans b1)
  clear k1 b1 z1
  go_wp2_with fail
  refine (asm_do w.heap.size g (aif 12 [110, 101, 120, 116] [97, 103, 97, 105, 110] (acas [110, 101, 120, 116] [98, 97, 115, 101] 0 [110, 111, 119] (ado 3 [110, 101, 120, 116] [110, 111, 119] [111, 110, 101] (aword 13 [110, 111, 119] [98, 97, 115, 101] 0 (aat [97, 103, 97, 105, 110] (aset [97, 108, 108] 4 (aset [111, 110, 101] 1 (aregs [[109, 101]] anew)))))))) 6 [114, 111, 117, 110, 100] [110, 111, 119] [97, 108, 108] w8 BB.out.size (by decide) (by decide) (by decide) (by decide) (by decide) K.out).mono ?_
  rintro e w9 hp
  obtain ⟨rfl, k1, b1, z1⟩ := hp
  have K := hid k1; have BB := hid (BB.out.trans b1)
  clear k1 b1 z1
  go_wp2_with fail
  refine (asm_do w.heap.size g (ado 6 [114, 111, 117, 110, 100] [110, 111, 119] [97, 108, 108] (aif 12 [110, 101, 120, 116] [97, 103, 97, 105, 110] (acas [110, 101, 120, 116] [98, 97, 115, 101] 0 [110, 111, 119] (ado 3 [110, 101, 120, 116] [110, 111, 119] [111, 110, 101] (aword 13 [110, 111, 119] [98, 97, 115, 101] 0 (aat [97, 103, 97, 105, 110] (aset [97, 108, 108] 4 (aset [111, 110, 101] 1 (aregs [[109, 101]] anew))))))))) 3 [114, 111, 117, 110, 100] [114, 111, 117, 110, 100] [111, 110, 101] w9 BB.out.size (by decide) (by decide) (by decide) (by decide) (by decide) K.out).mono ?_
  rintro e w10 hp
  obtain ⟨rfl, k1, b1, z1⟩ := hp
  have K := hid k1; have BB := hid (BB.out.trans b1)
  clear k1 b1 z1
  go_wp2_with fail
  refine (asm_do w.heap.size g (ado 3 [114, 111, 117, 110, 100] [114, 111, 117, 110, 100] [111, 110, 101] (ado 6 [114, 111, 117, 110, 100] [110, 111, 119] [97, 108, 108] (aif 12 [110, 101, 120, 116] [97, 103, 97, 105, 110] (acas [110, 101, 120, 116] [98, 97, 115, 101] 0 [110, 111, 119] (ado 3 [110, 101, 120, 116] [110, 111, 119] [111, 110, 101] (aword 13 [110, 111, 119] [98, 97, 115, 101] 0 (aat [97, 103, 97, 105, 110] (aset [97, 108, 108] 4 (aset [111, 110, 101] 1 (aregs [[109, 101]] anew)))))))))) 5 [114, 111, 117, 110, 100] [114, 111, 117, 110, 100] [97, 108, 108] w10 BB.out.size (by decide) (by decide) (by decide) (by decide) (by decide) K.out).mono ?_
  rintro e w11 hp
  obtain ⟨rfl, k1, b1, z1⟩ := hp
  have K := hid k1; have BB := hid (BB.out.trans b1)
  clear k1 b1 z1
  go_wp2_with fail
  refine (asm_at w.heap.size g (ado 5 [114, 111, 117, 110, 100] [114, 111, 117, 110, 100] [97, 108, 108] (ado 3 [114, 111, 117, 110, 100] [114, 111, 117, 110, 100] [111, 110, 101] (ado 6 [114, 111, 117, 110, 100] [110, 111, 119] [97, 108, 108] (aif 12 [110, 101, 120, 116] [97, 103, 97, 105, 110] (acas [110, 101, 120, 116] [98, 97, 115, 101] 0 [110, 111, 119] (ado 3 [110, 101, 120, 116] [110, 111, 119] [111, 110, 101] (aword 13 [110, 111, 119] [98, 97, 115, 101] 0 (aat [97, 103, 97, 105, 110] (aset [97, 108, 108] 4 (aset [111, 110, 101] 1 (aregs [[109, 101]] anew))))))))))) [119, 97, 105, 116] w11 BB.out.size (by decide) (by decide) (by decide) K.out).mono ?_
  rintro e w12 hp
  obtain ⟨rfl, k1, b1, z1⟩ := hp
  have K := hid k1; have BB := hid (BB.out.trans b1)
  clear k1 b1 z1
  go_wp2_with fail
  refine (asm_word w.heap.size g (aat [119, 97, 105, 116] (ado 5 [114, 111, 117, 110, 100] [114, 111, 117, 110, 100] [97, 108, 108] (ado 3 [114, 111, 117, 110, 100] [114, 111, 117, 110, 100] [111, 110, 101] (ado 6 [114, 111, 117, 110, 100] [110, 111, 119] [97, 108, 108] (aif 12 [110, 101, 120, 116] [97, 103, 97, 105, 110] (acas [110, 101, 120, 116] [98, 97, 115, 101] 0 [110, 111, 119] (ado 3 [110, 101, 120, 116] [110, 111, 119] [111, 110, 101] (aword 13 [110, 111, 119] [98, 97, 115, 101] 0 (aat [97, 103, 97, 105, 110] (aset [97, 108, 108] 4 (aset [111, 110, 101] 1 (aregs [[109, 101]] anew)))))))))))) 13 [110, 111, 119] [98, 97, 115, 101] 0 w12 BB.out.size (by decide) (by decide) (by decide) (by decide) K.out).mono ?_
  rintro e w13 hp
  obtain ⟨rfl, k1, b1, z1⟩ := hp
  have K := hid k1; have BB := hid (BB.out.trans b1)
  clear k1 b1 z1
  go_wp2_with fail
  refine (asm_do w.heap.size g (aword 13 [110, 111, 119] [98, 97, 115, 101] 0 (aat [119, 97, 105, 116] (ado 5 [114, 111, 117, 110, 100] [114, 111, 117, 110, 100] [97, 108, 108] (ado 3 [114, 111, 117, 110, 100] [114, 111, 117, 110, 100] [111, 110, 101] (ado 6 [114, 111, 117, 110, 100] [110, 111, 119] [97, 108, 108] (aif 12 [110, 101, 120, 116] [97, 103, 97, 105, 110] (acas [110, 101, 120, 116] [98, 97, 115, 101] 0 [110, 111, 119] (ado 3 [110, 101, 120, 116] [110, 111, 119] [111, 110, 101] (aword 13 [110, 111, 119] [98, 97, 115, 101] 0 (aat [97, 103, 97, 105, 110] (aset [97, 108, 108] 4 (aset [111, 110, 101] 1 (aregs [[109, 101]] anew))))))))))))) 9 [108, 101, 115, 115] [110, 111, 119] [114, 111, 117, 110, 100] w13 BB.out.size (by decide) (by decide) (by decide) (by decide) (by decide) K.out).mono ?_
  rintro e w14 hp
  obtain ⟨rfl, k1, b1, z1⟩ := hp
  have K := hid k1; have BB := hid (BB.out.trans b1)
  clear k1 b1 z1
  go_wp2_with fail
  refine (asm_if w.heap.size g (ado 9 [108, 101, 115, 115] [110, 111, 119] [114, 111, 117, 110, 100] (aword 13 [110, 111, 119] [98, 97, 115, 101] 0 (aat [119, 97, 105, 116] (ado 5 [114, 111, 117, 110, 100] [114, 111, 117, 110, 100] [97, 108, 108] (ado 3 [114, 111, 117, 110, 100] [114, 111, 117, 110, 100] [111, 110, 101] (ado 6 [114, 111, 117, 110, 100] [110, 111, 119] [97, 108, 108] (aif 12 [110, 101, 120, 116] [97, 103, 97, 105, 110] (acas [110, 101, 120, 116] [98, 97, 115, 101] 0 [110, 111, 119] (ado 3 [110, 101, 120, 116] [110, 111, 119] [111, 110, 101] (aword 13 [110, 111, 119] [98, 97, 115, 101] 0 (aat [97, 103, 97, 105, 110] (aset [97, 108, 108] 4 (aset [111, 110, 101] 1 (aregs [[109, 101]] anew)))))))))))))) 11 [108, 101, 115, 115] [119, 97, 105, 116] w14 BB.out.size (by decide) (by decide) (by decide) (by decide) K.out).mono ?_
  rintro e w15 hp
  obtain ⟨rfl, k1, b1, z1⟩ := hp
  have K := hid k1; have BB := hid (BB.out.trans b1)
  clear k1 b1 z1
  go_wp2_with fail
  refine (asm_ops w.heap.size g (aif 11 [108, 101, 115, 115] [119, 97, 105, 116] (ado 9 [108, 101, 115, 115] [110, 111, 119] [114, 111, 117, 110, 100] (aword 13 [110, 111, 119] [98, 97, 115, 101] 0 (aat [119, 97, 105, 116] (ado 5 [114, 111, 117, 110, 100] [114, 111, 117, 110, 100] [97, 108, 108] (ado 3 [114, 111, 117, 110, 100] [114, 111, 117, 110, 100] [111, 110, 101] (ado 6 [114, 111, 117, 110, 100] [110, 111, 119] [97, 108, 108] (aif 12 [110, 101, 120, 116] [97, 103, 97, 105, 110] (acas [110, 101, 120, 116] [98, 97, 115, 101] 0 [110, 111, 119] (ado 3 [110, 101, 120, 116] [110, 111, 119] [111, 110, 101] (aword 13 [110, 111, 119] [98, 97, 115, 101] 0 (aat [97, 103, 97, 105, 110] (aset [97, 108, 108] 4 (aset [111, 110, 101] 1 (aregs [[109, 101]] anew))))))))))))))) w15 BB.out.size (by decide +kernel) (by decide +kernel) (by decide +kernel) K.out).mono ?_
  rintro e w99 hp
  have HC := hid (CodePost.of (code := waitCode 4) BB.out hp (by decide +kernel))
  obtain ⟨v, rfl, ho⟩ := HC.out
  clear hp
  go_wp2
  go_ret2
  exact ⟨v, rfl, ho⟩
theorem barr_wait (t : Nat) (w : World) (h1 : 1 ≤ t) (h4 : t ≤ 4) : Calls Tryd.prog 55 #[.int .i64 (t : Int)] w fun e w' => CodePost2 w (waitCode (t : Int)) e w' := by
  rcases (show t = 1 ∨ t = 2 ∨ t = 3 ∨ t = 4 by omega) with rfl | rfl | rfl | rfl
  · exact barr_wait1 w
  · exact barr_wait2 w
  · exact barr_wait3 w
  · exact barr_wait4 w
theorem barr_words (t : Nat) (w : World) (h1 : 1 ≤ t) (h4 : t ≤ 4) : Calls Tryd.prog 54 #[.int .i64 (t : Int)] w fun e w' => ∃ v, e = .returned (.tuple #[v, .int .i64 0]) ∧ Ow w w' 3 1 gI v [0] := by
  go_enter Tryd.func54, Tryd.ntmps54
  go_wp2_with fail
  refine (barr_may t w h1 h4).mono ?_
  rintro e w' ⟨rfl, rfl⟩
  go_wp2
  go_ret2
  exact ⟨_, rfl, ⟨⟨rfl, .inr ⟨w.heap.size, 1, #[.int .i64 0], rfl, Nat.le_refl _, Blk.new w _ _, Nat.le_refl _, by simp [maxLen], rfl, rfl⟩⟩, bnew (bnil w) _⟩⟩
end Go.Proofs.YtnoinojhocicjaaDoor
