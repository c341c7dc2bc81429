/-
  Codes of packages once, cons, count: their walks. Written by gen_codes1.py.
-/
import Derived.Test.YtnoinojhocicjaaDoorAsm3
namespace Go.Proofs.YtnoinojhocicjaaDoor
open Go.RowKit Go.Maps
set_option linter.unusedVariables false

def onceCode : List Op5 := [⟨1, 0, 1, 0, 0⟩, ⟨15, 0, 1, 0, 2⟩, ⟨16, 0, 0, 0, 0⟩]
def consCode : List Op5 := [⟨1, 1, -1, 0, 0⟩, ⟨15, 0, 2, 0, 1⟩, ⟨13, 0, 2, 0, 0⟩, ⟨16, 0, 0, 0, 0⟩]
def addCode : List Op5 := [⟨13, 1, 2, 0, 0⟩, ⟨3, 3, 1, 0, 0⟩, ⟨15, 3, 2, 0, 1⟩, ⟨12, 3, 0, 0, 0⟩, ⟨16, 1, 0, 0, 0⟩]
def getCode : List Op5 := [⟨13, 0, 1, 0, 0⟩, ⟨16, 0, 0, 0, 0⟩]
/-- a code that a function puts together -/
def CodePost (w : World) (code : List Op5) (e : Ending) (w' : World) : Prop := ∃ v, e = .returned v ∧ Ow w w' 81 5 gO v code
theorem CodePost.of {w w1 w' : World} {a : AC} {code : List Op5} {e : Ending} (hb : Below w.heap.size w w1) (h : OpsPost w.heap.size w1 a e w') (hc : aops a = code) : CodePost w code e w' := by
  obtain ⟨v, h1, h2, h3⟩ := h
  rw [hc] at h2
  exact ⟨v, h1, ⟨h2, hb.trans h3⟩⟩
set_option maxHeartbeats 1000000 in
theorem once_try (w : World) : Calls Tryd.prog 33 #[] w fun e w' => CodePost w (onceCode) e w' := by
  go_enter Tryd.func33, Tryd.ntmps33
  go_wp2_with fail
  refine (asm_new w.heap.size [] none 0 0 w (Nat.le_refl _) (by simp) rfl (by decide) (.inl rfl)).mono ?_
  rintro e w1 hp
  obtain ⟨g, rfl, k1, b1, z1⟩ := hp
  have K := hid k1; have BB := hid b1
  clear k1 b1 z1
  go_wp2_with fail
  refine (asm_set w.heap.size g (aregs [] anew) [118] 1 w1 BB.out.size (by decide) (by decide) (by decide) K.out).mono ?_
  rintro e w2 hp
  obtain ⟨rfl, k1, b1, z1⟩ := hp
  have K := hid k1; have BB := hid (BB.out.trans b1)
  clear k1 b1 z1
  go_wp2_with fail
  refine (asm_cas w.heap.size g (aset [118] 1 (aregs [] anew)) [118] [98, 97, 115, 101] 0 [110, 111, 110, 101] w2 BB.out.size (by decide) (by decide) (by decide) (by decide) (by decide) K.out).mono ?_
  rintro e w3 hp
  obtain ⟨rfl, k1, b1, z1⟩ := hp
  have K := hid k1; have BB := hid (BB.out.trans b1)
  clear k1 b1 z1
  go_wp2_with fail
  refine (asm_tell w.heap.size g (acas [118] [98, 97, 115, 101] 0 [110, 111, 110, 101] (aset [118] 1 (aregs [] anew))) [[118]] w3.heap.size 1 (w3.alloc (.cells #[.string ⟨#[118]⟩] 9)) (Nat.le_trans BB.out.size (bnew (bnil _) _).size) (by decide) rfl (by decide) (by decide) (by decide) (K.out.below (bnew (bnil _) _)) (Blk.new w3 _ _)).mono ?_
  rintro e w4 hp
  obtain ⟨rfl, k1, b1, z1⟩ := hp
  have K := hid k1; have BB := hid ((bgo BB.out (bnew (bnil w3) (.cells #[.string ⟨#[118]⟩] 9))).trans b1)
  clear k1 b1 z1
  go_wp2_with fail
  refine (asm_ops w.heap.size g (atell [[118]] (acas [118] [98, 97, 115, 101] 0 [110, 111, 110, 101] (aset [118] 1 (aregs [] anew)))) w4 BB.out.size (by decide +kernel) (by decide +kernel) (by decide +kernel) K.out).mono ?_
  rintro e w99 hp
  have HC := hid (CodePost.of (code := onceCode) BB.out hp (by decide +kernel))
  obtain ⟨v, rfl, ho⟩ := HC.out
  clear hp
  go_wp2
  go_ret
  exact ⟨v, rfl, ho⟩
set_option maxHeartbeats 1000000 in
theorem cons_propose (w : World) : Calls Tryd.prog 25 #[] w fun e w' => CodePost w (consCode) e w' := by
  go_enter Tryd.func25, Tryd.ntmps25
  go_wp2_with fail
  refine (asm_new w.heap.size [[118]] (some ⟨w.heap.size, 0, none⟩) 1 1 (w.alloc (.cells #[.string ⟨#[118]⟩] 9)) (bnew (bnil w) _).size (by decide) rfl (by decide) (.inr ⟨_, rfl, Blk.new w _ _⟩)).mono ?_
  rintro e w1 hp
  obtain ⟨g, rfl, k1, b1, z1⟩ := hp
  have K := hid k1; have BB := hid ((bnew (bnil w) (.cells #[.string ⟨#[118]⟩] 9)).trans b1)
  clear k1 b1 z1
  go_wp2_with fail
  refine (asm_set w.heap.size g (aregs [[118]] anew) [110, 111, 110, 101] (-1) w1 BB.out.size (by decide) (by decide) (by decide) K.out).mono ?_
  rintro e w2 hp
  obtain ⟨rfl, k1, b1, z1⟩ := hp
  have K := hid k1; have BB := hid (BB.out.trans b1)
  clear k1 b1 z1
  go_wp2_with fail
  refine (asm_cas w.heap.size g (aset [110, 111, 110, 101] (-1) (aregs [[118]] anew)) [118] [98, 97, 115, 101] 0 [110, 111, 110, 101] w2 BB.out.size (by decide) (by decide) (by decide) (by decide) (by decide) K.out).mono ?_
  rintro e w3 hp
  obtain ⟨rfl, k1, b1, z1⟩ := hp
  have K := hid k1; have BB := hid (BB.out.trans b1)
  clear k1 b1 z1
  go_wp2_with fail
  refine (asm_word w.heap.size g (acas [118] [98, 97, 115, 101] 0 [110, 111, 110, 101] (aset [110, 111, 110, 101] (-1) (aregs [[118]] anew))) 13 [118] [98, 97, 115, 101] 0 w3 BB.out.size (by decide) (by decide) (by decide) (by decide) K.out).mono ?_
  rintro e w4 hp
  obtain ⟨rfl, k1, b1, z1⟩ := hp
  have K := hid k1; have BB := hid (BB.out.trans b1)
  clear k1 b1 z1
  go_wp2_with fail
  refine (asm_tell w.heap.size g (aword 13 [118] [98, 97, 115, 101] 0 (acas [118] [98, 97, 115, 101] 0 [110, 111, 110, 101] (aset [110, 111, 110, 101] (-1) (aregs [[118]] anew)))) [[118]] w4.heap.size 1 (w4.alloc (.cells #[.string ⟨#[118]⟩] 9)) (Nat.le_trans BB.out.size (bnew (bnil _) _).size) (by decide) rfl (by decide) (by decide) (by decide) (K.out.below (bnew (bnil _) _)) (Blk.new w4 _ _)).mono ?_
  rintro e w5 hp
  obtain ⟨rfl, k1, b1, z1⟩ := hp
  have K := hid k1; have BB := hid ((bgo BB.out (bnew (bnil w4) (.cells #[.string ⟨#[118]⟩] 9))).trans b1)
  clear k1 b1 z1
  go_wp2_with fail
  refine (asm_ops w.heap.size g (atell [[118]] (aword 13 [118] [98, 97, 115, 101] 0 (acas [118] [98, 97, 115, 101] 0 [110, 111, 110, 101] (aset [110, 111, 110, 101] (-1) (aregs [[118]] anew))))) w5 BB.out.size (by decide +kernel) (by decide +kernel) (by decide +kernel) K.out).mono ?_
  rintro e w99 hp
  have HC := hid (CodePost.of (code := consCode) BB.out hp (by decide +kernel))
  obtain ⟨v, rfl, ho⟩ := HC.out
  clear hp
  go_wp2
  go_ret
  exact ⟨v, rfl, ho⟩
set_option maxHeartbeats 1000000 in
theorem count_add (w : World) : Calls Tryd.prog 46 #[] w fun e w' => CodePost w (addCode) e w' := by
  go_enter Tryd.func46, Tryd.ntmps46
  go_wp2_with fail
  refine (asm_new w.heap.size [[98, 121]] (some ⟨w.heap.size, 0, none⟩) 1 1 (w.alloc (.cells #[.string ⟨#[98, 121]⟩] 9)) (bnew (bnil w) _).size (by decide) rfl (by decide) (.inr ⟨_, rfl, Blk.new w _ _⟩)).mono ?_
  rintro e w1 hp
  obtain ⟨g, rfl, k1, b1, z1⟩ := hp
  have K := hid k1; have BB := hid ((bnew (bnil w) (.cells #[.string ⟨#[98, 121]⟩] 9)).trans b1)
  clear k1 b1 z1
  go_wp2_with fail
  refine (asm_at w.heap.size g (aregs [[98, 121]] anew) [97, 103, 97, 105, 110] w1 BB.out.size (by decide) (by decide) (by decide) K.out).mono ?_
  rintro e w2 hp
  obtain ⟨rfl, k1, b1, z1⟩ := hp
  have K := hid k1; have BB := hid (BB.out.trans b1)
  clear k1 b1 z1
  go_wp2_with fail
  refine (asm_word w.heap.size g (aat [97, 103, 97, 105, 110] (aregs [[98, 121]] anew)) 13 [111, 108, 100] [98, 97, 115, 101] 0 w2 BB.out.size (by decide) (by decide) (by decide) (by decide) K.out).mono ?_
  rintro e w3 hp
  obtain ⟨rfl, k1, b1, z1⟩ := hp
  have K := hid k1; have BB := hid (BB.out.trans b1)
  clear k1 b1 z1
  go_wp2_with fail
  refine (asm_do w.heap.size g (aword 13 [111, 108, 100] [98, 97, 115, 101] 0 (aat [97, 103, 97, 105, 110] (aregs [[98, 121]] anew))) 3 [110, 101, 119] [111, 108, 100] [98, 121] w3 BB.out.size (by decide) (by decide) (by decide) (by decide) (by decide) K.out).mono ?_
  rintro e w4 hp
  obtain ⟨rfl, k1, b1, z1⟩ := hp
  have K := hid k1; have BB := hid (BB.out.trans b1)
  clear k1 b1 z1
  go_wp2_with fail
  refine (asm_cas w.heap.size g (ado 3 [110, 101, 119] [111, 108, 100] [98, 121] (aword 13 [111, 108, 100] [98, 97, 115, 101] 0 (aat [97, 103, 97, 105, 110] (aregs [[98, 121]] anew)))) [110, 101, 119] [98, 97, 115, 101] 0 [111, 108, 100] w4 BB.out.size (by decide) (by decide) (by decide) (by decide) (by decide) K.out).mono ?_
  rintro e w5 hp
  obtain ⟨rfl, k1, b1, z1⟩ := hp
  have K := hid k1; have BB := hid (BB.out.trans b1)
  clear k1 b1 z1
  go_wp2_with fail
  refine (asm_if w.heap.size g (acas [110, 101, 119] [98, 97, 115, 101] 0 [111, 108, 100] (ado 3 [110, 101, 119] [111, 108, 100] [98, 121] (aword 13 [111, 108, 100] [98, 97, 115, 101] 0 (aat [97, 103, 97, 105, 110] (aregs [[98, 121]] anew))))) 12 [110, 101, 119] [97, 103, 97, 105, 110] w5 BB.out.size (by decide) (by decide) (by decide) (by decide) K.out).mono ?_
  rintro e w6 hp
  obtain ⟨rfl, k1, b1, z1⟩ := hp
  have K := hid k1; have BB := hid (BB.out.trans b1)
  clear k1 b1 z1
  go_wp2_with fail
  refine (asm_tell w.heap.size g (aif 12 [110, 101, 119] [97, 103, 97, 105, 110] (acas [110, 101, 119] [98, 97, 115, 101] 0 [111, 108, 100] (ado 3 [110, 101, 119] [111, 108, 100] [98, 121] (aword 13 [111, 108, 100] [98, 97, 115, 101] 0 (aat [97, 103, 97, 105, 110] (aregs [[98, 121]] anew)))))) [[111, 108, 100]] w6.heap.size 1 (w6.alloc (.cells #[.string ⟨#[111, 108, 100]⟩] 9)) (Nat.le_trans BB.out.size (bnew (bnil _) _).size) (by decide) rfl (by decide) (by decide) (by decide) (K.out.below (bnew (bnil _) _)) (Blk.new w6 _ _)).mono ?_
  rintro e w7 hp
  obtain ⟨rfl, k1, b1, z1⟩ := hp
  have K := hid k1; have BB := hid ((bgo BB.out (bnew (bnil w6) (.cells #[.string ⟨#[111, 108, 100]⟩] 9))).trans b1)
  clear k1 b1 z1
  go_wp2_with fail
  refine (asm_ops w.heap.size g (atell [[111, 108, 100]] (aif 12 [110, 101, 119] [97, 103, 97, 105, 110] (acas [110, 101, 119] [98, 97, 115, 101] 0 [111, 108, 100] (ado 3 [110, 101, 119] [111, 108, 100] [98, 121] (aword 13 [111, 108, 100] [98, 97, 115, 101] 0 (aat [97, 103, 97, 105, 110] (aregs [[98, 121]] anew))))))) w7 BB.out.size (by decide +kernel) (by decide +kernel) (by decide +kernel) K.out).mono ?_
  rintro e w99 hp
  have HC := hid (CodePost.of (code := addCode) BB.out hp (by decide +kernel))
  obtain ⟨v, rfl, ho⟩ := HC.out
  clear hp
  go_wp2
  go_ret
  exact ⟨v, rfl, ho⟩
set_option maxHeartbeats 1000000 in
theorem count_get (w : World) : Calls Tryd.prog 47 #[] w fun e w' => CodePost w (getCode) e w' := by
  go_enter Tryd.func47, Tryd.ntmps47
  go_wp2_with fail
  refine (asm_new w.heap.size [] none 0 0 w (Nat.le_refl _) (by simp) rfl (by decide) (.inl rfl)).mono ?_
  rintro e w1 hp
  obtain ⟨g, rfl, k1, b1, z1⟩ := hp
  have K := hid k1; have BB := hid b1
  clear k1 b1 z1
  go_wp2_with fail
  refine (asm_word w.heap.size g (aregs [] anew) 13 [110, 111, 119] [98, 97, 115, 101] 0 w1 BB.out.size (by decide) (by decide) (by decide) (by decide) K.out).mono ?_
  rintro e w2 hp
  obtain ⟨rfl, k1, b1, z1⟩ := hp
  have K := hid k1; have BB := hid (BB.out.trans b1)
  clear k1 b1 z1
  go_wp2_with fail
  refine (asm_tell w.heap.size g (aword 13 [110, 111, 119] [98, 97, 115, 101] 0 (aregs [] anew)) [[110, 111, 119]] w2.heap.size 1 (w2.alloc (.cells #[.string ⟨#[110, 111, 119]⟩] 9)) (Nat.le_trans BB.out.size (bnew (bnil _) _).size) (by decide) rfl (by decide) (by decide) (by decide) (K.out.below (bnew (bnil _) _)) (Blk.new w2 _ _)).mono ?_
  rintro e w3 hp
  obtain ⟨rfl, k1, b1, z1⟩ := hp
  have K := hid k1; have BB := hid ((bgo BB.out (bnew (bnil w2) (.cells #[.string ⟨#[110, 111, 119]⟩] 9))).trans b1)
  clear k1 b1 z1
  go_wp2_with fail
  refine (asm_ops w.heap.size g (atell [[110, 111, 119]] (aword 13 [110, 111, 119] [98, 97, 115, 101] 0 (aregs [] anew))) w3 BB.out.size (by decide +kernel) (by decide +kernel) (by decide +kernel) K.out).mono ?_
  rintro e w99 hp
  have HC := hid (CodePost.of (code := getCode) BB.out hp (by decide +kernel))
  obtain ⟨v, rfl, ho⟩ := HC.out
  clear hp
  go_wp2
  go_ret
  exact ⟨v, rfl, ho⟩
end Go.Proofs.YtnoinojhocicjaaDoor
