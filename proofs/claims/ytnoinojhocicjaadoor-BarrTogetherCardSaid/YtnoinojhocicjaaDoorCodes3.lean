/-
  Codes of package rwl: their walks. Written by gen_codes3.py.
-/
import Derived.Test.YtnoinojhocicjaaDoorCodes1
namespace Go.Proofs.YtnoinojhocicjaaDoor
open Go.RowKit Go.Maps
set_option linter.unusedVariables false

def readInCode : List Op5 := [⟨1, 0, 1, 0, 0⟩, ⟨13, 1, 2, 0, 0⟩, ⟨9, 3, 1, 2, 0⟩, ⟨11, 3, 1, 0, 0⟩, ⟨3, 4, 1, 0, 0⟩, ⟨15, 4, 2, 0, 1⟩, ⟨12, 4, 1, 0, 0⟩]
def readOutCode : List Op5 := [⟨1, 0, 1, 0, 0⟩, ⟨13, 1, 2, 0, 0⟩, ⟨4, 3, 1, 0, 0⟩, ⟨15, 3, 2, 0, 1⟩, ⟨12, 3, 1, 0, 0⟩]
def writeInCode : List Op5 := [⟨1, 0, 1, 0, 0⟩, ⟨13, 1, 2, 0, 0⟩, ⟨11, 1, 1, 0, 0⟩, ⟨4, 3, 1, 0, 0⟩, ⟨15, 3, 2, 0, 1⟩, ⟨12, 3, 1, 0, 0⟩]
def writeOutCode : List Op5 := [⟨14, 0, 1, 0, 0⟩]
set_option maxHeartbeats 1000000 in
theorem rwl_begun (B : Nat) (w : World) (hB : B ≤ w.heap.size) : Calls Tryd.prog 73 #[] w fun e w' => ∃ g, e = .returned (.pointer (some ⟨g, 0, none⟩)) ∧ ACat B w' g (aword 13 [110, 111, 119] [98, 97, 115, 101] 0 (aat [97, 103, 97, 105, 110] (aset [111, 110, 101] 1 (aregs [] anew)))) ∧ Below B w w' := by
  go_enter Tryd.func73, Tryd.ntmps73
  go_wp2_with fail
  refine (asm_new B [] none 0 0 w hB (by simp) rfl (by decide) (.inl rfl)).mono ?_
  rintro e w1 hp
  obtain ⟨g, rfl, k1, b1, z1⟩ := hp
  have K := hid k1; have BB := hid b1
  clear k1 b1 z1
  go_wp2_with fail
  refine (asm_set B g (aregs [] anew) [111, 110, 101] 1 w1 (Nat.le_trans hB BB.out.size) (by decide) (by decide) (by decide) K.out).mono ?_
  rintro e w2 hp
  obtain ⟨rfl, k1, b1, z1⟩ := hp
  have K := hid k1; have BB := hid (BB.out.trans b1)
  clear k1 b1 z1
  go_wp2_with fail
  refine (asm_at B g (aset [111, 110, 101] 1 (aregs [] anew)) [97, 103, 97, 105, 110] w2 (Nat.le_trans hB BB.out.size) (by decide) (by decide) (by decide) K.out).mono ?_
  rintro e w3 hp
  obtain ⟨rfl, k1, b1, z1⟩ := hp
  have K := hid k1; have BB := hid (BB.out.trans b1)
  clear k1 b1 z1
  go_wp2_with fail
  refine (asm_word B g (aat [97, 103, 97, 105, 110] (aset [111, 110, 101] 1 (aregs [] anew))) 13 [110, 111, 119] [98, 97, 115, 101] 0 w3 (Nat.le_trans hB BB.out.size) (by decide) (by decide) (by decide) (by decide) K.out).mono ?_
  rintro e w4 hp
  obtain ⟨rfl, k1, b1, z1⟩ := hp
  have K := hid k1; have BB := hid (BB.out.trans b1)
  clear k1 b1 z1
  go_wp2
  go_ret
  exact ⟨g, rfl, K.out, BB.out⟩
set_option maxHeartbeats 1000000 in
theorem rwl_change_r (B g : Nat) (w : World) (hB : B ≤ w.heap.size) (K0 : ACat B w g (aif 11 [119, 114, 105, 116, 101, 115] [97, 103, 97, 105, 110] (ado 9 [119, 114, 105, 116, 101, 115] [110, 111, 119] [98, 97, 115, 101] (aword 13 [110, 111, 119] [98, 97, 115, 101] 0 (aat [97, 103, 97, 105, 110] (aset [111, 110, 101] 1 (aregs [] anew))))))) : Calls Tryd.prog 72 #[.pointer (some ⟨g, 0, none⟩), .int .i64 3] w fun e w' => ∃ v, e = .returned v ∧ w'.ownsRow B 81 5 v readInCode.length (readInCode.flatMap gO) ∧ Below B w w' := by
  have K := hid K0; have BB := hid (show Below B w w from Below.refl B w)
  clear K0
  go_enter Tryd.func72, Tryd.ntmps72
  go_wp2_with fail
  refine (asm_do B g (aif 11 [119, 114, 105, 116, 101, 115] [97, 103, 97, 105, 110] (ado 9 [119, 114, 105, 116, 101, 115] [110, 111, 119] [98, 97, 115, 101] (aword 13 [110, 111, 119] [98, 97, 115, 101] 0 (aat [97, 103, 97, 105, 110] (aset [111, 110, 101] 1 (aregs [] anew)))))) 3 [110, 101, 120, 116] [110, 111, 119] [111, 110, 101] w (Nat.le_trans hB BB.out.size) (by decide) (by decide) (by decide) (by decide) (by decide) K.out).mono ?_
  rintro e w1 hp
  obtain ⟨rfl, k1, b1, z1⟩ := hp
  have K := hid k1; have BB := hid (BB.out.trans b1)
  clear k1 b1 z1
  go_wp2_with fail
  refine (asm_cas B g (ado 3 [110, 101, 120, 116] [110, 111, 119] [111, 110, 101] (aif 11 [119, 114, 105, 116, 101, 115] [97, 103, 97, 105, 110] (ado 9 [119, 114, 105, 116, 101, 115] [110, 111, 119] [98, 97, 115, 101] (aword 13 [110, 111, 119] [98, 97, 115, 101] 0 (aat [97, 103, 97, 105, 110] (aset [111, 110, 101] 1 (aregs [] anew))))))) [110, 101, 120, 116] [98, 97, 115, 101] 0 [110, 111, 119] w1 (Nat.le_trans hB BB.out.size) (by decide) (by decide) (by decide) (by decide) (by decide) K.out).mono ?_
  rintro e w2 hp
  obtain ⟨rfl, k1, b1, z1⟩ := hp
  have K := hid k1; have BB := hid (BB.out.trans b1)
  clear k1 b1 z1
  go_wp2_with fail
  refine (asm_if B g (acas [110, 101, 120, 116] [98, 97, 115, 101] 0 [110, 111, 119] (ado 3 [110, 101, 120, 116] [110, 111, 119] [111, 110, 101] (aif 11 [119, 114, 105, 116, 101, 115] [97, 103, 97, 105, 110] (ado 9 [119, 114, 105, 116, 101, 115] [110, 111, 119] [98, 97, 115, 101] (aword 13 [110, 111, 119] [98, 97, 115, 101] 0 (aat [97, 103, 97, 105, 110] (aset [111, 110, 101] 1 (aregs [] anew)))))))) 12 [110, 101, 120, 116] [97, 103, 97, 105, 110] w2 (Nat.le_trans hB BB.out.size) (by decide) (by decide) (by decide) (by decide) K.out).mono ?_
  rintro e w3 hp
  obtain ⟨rfl, k1, b1, z1⟩ := hp
  have K := hid k1; have BB := hid (BB.out.trans b1)
  clear k1 b1 z1
  go_wp2_with fail
  refine (asm_ops B g (aif 12 [110, 101, 120, 116] [97, 103, 97, 105, 110] (acas [110, 101, 120, 116] [98, 97, 115, 101] 0 [110, 111, 119] (ado 3 [110, 101, 120, 116] [110, 111, 119] [111, 110, 101] (aif 11 [119, 114, 105, 116, 101, 115] [97, 103, 97, 105, 110] (ado 9 [119, 114, 105, 116, 101, 115] [110, 111, 119] [98, 97, 115, 101] (aword 13 [110, 111, 119] [98, 97, 115, 101] 0 (aat [97, 103, 97, 105, 110] (aset [111, 110, 101] 1 (aregs [] anew))))))))) w3 (Nat.le_trans hB BB.out.size) (by decide +kernel) (by decide +kernel) (by decide +kernel) K.out).mono ?_
  rintro e w99 hp
  obtain ⟨v, h1, h2, h3⟩ := hp
  rw [show aops (aif 12 [110, 101, 120, 116] [97, 103, 97, 105, 110] (acas [110, 101, 120, 116] [98, 97, 115, 101] 0 [110, 111, 119] (ado 3 [110, 101, 120, 116] [110, 111, 119] [111, 110, 101] (aif 11 [119, 114, 105, 116, 101, 115] [97, 103, 97, 105, 110] (ado 9 [119, 114, 105, 116, 101, 115] [110, 111, 119] [98, 97, 115, 101] (aword 13 [110, 111, 119] [98, 97, 115, 101] 0 (aat [97, 103, 97, 105, 110] (aset [111, 110, 101] 1 (aregs [] anew))))))))) = readInCode from by decide +kernel] at h2
  subst h1
  have H2 := hid h2; have H3 := hid h3
  clear h2 h3
  go_wp2
  go_ret
  exact ⟨v, rfl, H2.out, BB.out.trans H3.out⟩
set_option maxHeartbeats 1000000 in
theorem rwl_change_o (B g : Nat) (w : World) (hB : B ≤ w.heap.size) (K0 : ACat B w g (aword 13 [110, 111, 119] [98, 97, 115, 101] 0 (aat [97, 103, 97, 105, 110] (aset [111, 110, 101] 1 (aregs [] anew))))) : Calls Tryd.prog 72 #[.pointer (some ⟨g, 0, none⟩), .int .i64 4] w fun e w' => ∃ v, e = .returned v ∧ w'.ownsRow B 81 5 v readOutCode.length (readOutCode.flatMap gO) ∧ Below B w w' := by
  have K := hid K0; have BB := hid (show Below B w w from Below.refl B w)
  clear K0
  go_enter Tryd.func72, Tryd.ntmps72
  go_wp2_with fail
  refine (asm_do B g (aword 13 [110, 111, 119] [98, 97, 115, 101] 0 (aat [97, 103, 97, 105, 110] (aset [111, 110, 101] 1 (aregs [] anew)))) 4 [110, 101, 120, 116] [110, 111, 119] [111, 110, 101] w (Nat.le_trans hB BB.out.size) (by decide) (by decide) (by decide) (by decide) (by decide) K.out).mono ?_
  rintro e w1 hp
  obtain ⟨rfl, k1, b1, z1⟩ := hp
  have K := hid k1; have BB := hid (BB.out.trans b1)
  clear k1 b1 z1
  go_wp2_with fail
  refine (asm_cas B g (ado 4 [110, 101, 120, 116] [110, 111, 119] [111, 110, 101] (aword 13 [110, 111, 119] [98, 97, 115, 101] 0 (aat [97, 103, 97, 105, 110] (aset [111, 110, 101] 1 (aregs [] anew))))) [110, 101, 120, 116] [98, 97, 115, 101] 0 [110, 111, 119] w1 (Nat.le_trans hB BB.out.size) (by decide) (by decide) (by decide) (by decide) (by decide) K.out).mono ?_
  rintro e w2 hp
  obtain ⟨rfl, k1, b1, z1⟩ := hp
  have K := hid k1; have BB := hid (BB.out.trans b1)
  clear k1 b1 z1
  go_wp2_with fail
  refine (asm_if B g (acas [110, 101, 120, 116] [98, 97, 115, 101] 0 [110, 111, 119] (ado 4 [110, 101, 120, 116] [110, 111, 119] [111, 110, 101] (aword 13 [110, 111, 119] [98, 97, 115, 101] 0 (aat [97, 103, 97, 105, 110] (aset [111, 110, 101] 1 (aregs [] anew)))))) 12 [110, 101, 120, 116] [97, 103, 97, 105, 110] w2 (Nat.le_trans hB BB.out.size) (by decide) (by decide) (by decide) (by decide) K.out).mono ?_
  rintro e w3 hp
  obtain ⟨rfl, k1, b1, z1⟩ := hp
  have K := hid k1; have BB := hid (BB.out.trans b1)
  clear k1 b1 z1
  go_wp2_with fail
  refine (asm_ops B g (aif 12 [110, 101, 120, 116] [97, 103, 97, 105, 110] (acas [110, 101, 120, 116] [98, 97, 115, 101] 0 [110, 111, 119] (ado 4 [110, 101, 120, 116] [110, 111, 119] [111, 110, 101] (aword 13 [110, 111, 119] [98, 97, 115, 101] 0 (aat [97, 103, 97, 105, 110] (aset [111, 110, 101] 1 (aregs [] anew))))))) w3 (Nat.le_trans hB BB.out.size) (by decide +kernel) (by decide +kernel) (by decide +kernel) K.out).mono ?_
  rintro e w99 hp
  obtain ⟨v, h1, h2, h3⟩ := hp
  rw [show aops (aif 12 [110, 101, 120, 116] [97, 103, 97, 105, 110] (acas [110, 101, 120, 116] [98, 97, 115, 101] 0 [110, 111, 119] (ado 4 [110, 101, 120, 116] [110, 111, 119] [111, 110, 101] (aword 13 [110, 111, 119] [98, 97, 115, 101] 0 (aat [97, 103, 97, 105, 110] (aset [111, 110, 101] 1 (aregs [] anew))))))) = readOutCode from by decide +kernel] at h2
  subst h1
  have H2 := hid h2; have H3 := hid h3
  clear h2 h3
  go_wp2
  go_ret
  exact ⟨v, rfl, H2.out, BB.out.trans H3.out⟩
set_option maxHeartbeats 1000000 in
theorem rwl_change_w (B g : Nat) (w : World) (hB : B ≤ w.heap.size) (K0 : ACat B w g (aif 11 [110, 111, 119] [97, 103, 97, 105, 110] (aword 13 [110, 111, 119] [98, 97, 115, 101] 0 (aat [97, 103, 97, 105, 110] (aset [111, 110, 101] 1 (aregs [] anew)))))) : Calls Tryd.prog 72 #[.pointer (some ⟨g, 0, none⟩), .int .i64 4] w fun e w' => ∃ v, e = .returned v ∧ w'.ownsRow B 81 5 v writeInCode.length (writeInCode.flatMap gO) ∧ Below B w w' := by
  have K := hid K0; have BB := hid (show Below B w w from Below.refl B w)
  clear K0
  go_enter Tryd.func72, Tryd.ntmps72
  go_wp2_with fail
  refine (asm_do B g (aif 11 [110, 111, 119] [97, 103, 97, 105, 110] (aword 13 [110, 111, 119] [98, 97, 115, 101] 0 (aat [97, 103, 97, 105, 110] (aset [111, 110, 101] 1 (aregs [] anew))))) 4 [110, 101, 120, 116] [110, 111, 119] [111, 110, 101] w (Nat.le_trans hB BB.out.size) (by decide) (by decide) (by decide) (by decide) (by decide) K.out).mono ?_
  rintro e w1 hp
  obtain ⟨rfl, k1, b1, z1⟩ := hp
  have K := hid k1; have BB := hid (BB.out.trans b1)
  clear k1 b1 z1
  go_wp2_with fail
  refine (asm_cas B g (ado 4 [110, 101, 120, 116] [110, 111, 119] [111, 110, 101] (aif 11 [110, 111, 119] [97, 103, 97, 105, 110] (aword 13 [110, 111, 119] [98, 97, 115, 101] 0 (aat [97, 103, 97, 105, 110] (aset [111, 110, 101] 1 (aregs [] anew)))))) [110, 101, 120, 116] [98, 97, 115, 101] 0 [110, 111, 119] w1 (Nat.le_trans hB BB.out.size) (by decide) (by decide) (by decide) (by decide) (by decide) K.out).mono ?_
  rintro e w2 hp
  obtain ⟨rfl, k1, b1, z1⟩ := hp
  have K := hid k1; have BB := hid (BB.out.trans b1)
  clear k1 b1 z1
  go_wp2_with fail
  refine (asm_if B g (acas [110, 101, 120, 116] [98, 97, 115, 101] 0 [110, 111, 119] (ado 4 [110, 101, 120, 116] [110, 111, 119] [111, 110, 101] (aif 11 [110, 111, 119] [97, 103, 97, 105, 110] (aword 13 [110, 111, 119] [98, 97, 115, 101] 0 (aat [97, 103, 97, 105, 110] (aset [111, 110, 101] 1 (aregs [] anew))))))) 12 [110, 101, 120, 116] [97, 103, 97, 105, 110] w2 (Nat.le_trans hB BB.out.size) (by decide) (by decide) (by decide) (by decide) K.out).mono ?_
  rintro e w3 hp
  obtain ⟨rfl, k1, b1, z1⟩ := hp
  have K := hid k1; have BB := hid (BB.out.trans b1)
  clear k1 b1 z1
  go_wp2_with fail
  refine (asm_ops B g (aif 12 [110, 101, 120, 116] [97, 103, 97, 105, 110] (acas [110, 101, 120, 116] [98, 97, 115, 101] 0 [110, 111, 119] (ado 4 [110, 101, 120, 116] [110, 111, 119] [111, 110, 101] (aif 11 [110, 111, 119] [97, 103, 97, 105, 110] (aword 13 [110, 111, 119] [98, 97, 115, 101] 0 (aat [97, 103, 97, 105, 110] (aset [111, 110, 101] 1 (aregs [] anew)))))))) w3 (Nat.le_trans hB BB.out.size) (by decide +kernel) (by decide +kernel) (by decide +kernel) K.out).mono ?_
  rintro e w99 hp
  obtain ⟨v, h1, h2, h3⟩ := hp
  rw [show aops (aif 12 [110, 101, 120, 116] [97, 103, 97, 105, 110] (acas [110, 101, 120, 116] [98, 97, 115, 101] 0 [110, 111, 119] (ado 4 [110, 101, 120, 116] [110, 111, 119] [111, 110, 101] (aif 11 [110, 111, 119] [97, 103, 97, 105, 110] (aword 13 [110, 111, 119] [98, 97, 115, 101] 0 (aat [97, 103, 97, 105, 110] (aset [111, 110, 101] 1 (aregs [] anew)))))))) = writeInCode from by decide +kernel] at h2
  subst h1
  have H2 := hid h2; have H3 := hid h3
  clear h2 h3
  go_wp2
  go_ret
  exact ⟨v, rfl, H2.out, BB.out.trans H3.out⟩
set_option maxHeartbeats 1000000 in
theorem rwl_readIn (w : World) : Calls Tryd.prog 50 #[] w fun e w' => CodePost w readInCode e w' := by
  obtain ⟨B, hBw⟩ : ∃ B, w.heap.size = B := ⟨_, rfl⟩
  have hB : B ≤ w.heap.size := Nat.le_of_eq hBw.symm
  have HBW := hid hBw
  clear hBw
  go_enter Tryd.func50, Tryd.ntmps50
  go_wp2_with fail
  refine (rwl_begun B w hB).mono ?_
  rintro e w1 hp
  obtain ⟨g, rfl, k1, b1⟩ := hp
  have K := hid k1; have BB := hid b1
  clear k1 b1
  go_wp2_with fail
  refine (asm_do B g (aword 13 [110, 111, 119] [98, 97, 115, 101] 0 (aat [97, 103, 97, 105, 110] (aset [111, 110, 101] 1 (aregs [] anew)))) 9 [119, 114, 105, 116, 101, 115] [110, 111, 119] [98, 97, 115, 101] w1 (Nat.le_trans hB BB.out.size) (by decide) (by decide) (by decide) (by decide) (by decide) K.out).mono ?_
  rintro e w2 hp
  obtain ⟨rfl, k1, b1, z1⟩ := hp
  have K := hid k1; have BB := hid (BB.out.trans b1)
  clear k1 b1 z1
  go_wp2_with fail
  refine (asm_if B g (ado 9 [119, 114, 105, 116, 101, 115] [110, 111, 119] [98, 97, 115, 101] (aword 13 [110, 111, 119] [98, 97, 115, 101] 0 (aat [97, 103, 97, 105, 110] (aset [111, 110, 101] 1 (aregs [] anew))))) 11 [119, 114, 105, 116, 101, 115] [97, 103, 97, 105, 110] w2 (Nat.le_trans hB BB.out.size) (by decide) (by decide) (by decide) (by decide) K.out).mono ?_
  rintro e w3 hp
  obtain ⟨rfl, k1, b1, z1⟩ := hp
  have K := hid k1; have BB := hid (BB.out.trans b1)
  clear k1 b1 z1
  go_wp2_with fail
  refine (rwl_change_r B g w3 (Nat.le_trans hB BB.out.size) K.out).mono ?_
  rintro e w99 ⟨v, rfl, h2, h3⟩
  have H2 := hid h2; have H3 := hid h3
  clear h2 h3
  go_wp2
  go_ret
  exact ⟨v, rfl, ⟨by rw [HBW.out]; exact H2.out, by rw [HBW.out]; exact BB.out.trans H3.out⟩⟩
set_option maxHeartbeats 1000000 in
theorem rwl_readOut (w : World) : Calls Tryd.prog 51 #[] w fun e w' => CodePost w readOutCode e w' := by
  obtain ⟨B, hBw⟩ : ∃ B, w.heap.size = B := ⟨_, rfl⟩
  have hB : B ≤ w.heap.size := Nat.le_of_eq hBw.symm
  have HBW := hid hBw
  clear hBw
  go_enter Tryd.func51, Tryd.ntmps51
  go_wp2_with fail
  refine (rwl_begun B w hB).mono ?_
  rintro e w1 hp
  obtain ⟨g, rfl, k1, b1⟩ := hp
  have K := hid k1; have BB := hid b1
  clear k1 b1
  go_wp2_with fail
  refine (rwl_change_o B g w1 (Nat.le_trans hB BB.out.size) K.out).mono ?_
  rintro e w99 ⟨v, rfl, h2, h3⟩
  have H2 := hid h2; have H3 := hid h3
  clear h2 h3
  go_wp2
  go_ret
  exact ⟨v, rfl, ⟨by rw [HBW.out]; exact H2.out, by rw [HBW.out]; exact BB.out.trans H3.out⟩⟩
set_option maxHeartbeats 1000000 in
theorem rwl_writeIn (w : World) : Calls Tryd.prog 52 #[] w fun e w' => CodePost w writeInCode e w' := by
  obtain ⟨B, hBw⟩ : ∃ B, w.heap.size = B := ⟨_, rfl⟩
  have hB : B ≤ w.heap.size := Nat.le_of_eq hBw.symm
  have HBW := hid hBw
  clear hBw
  go_enter Tryd.func52, Tryd.ntmps52
  go_wp2_with fail
  refine (rwl_begun B w hB).mono ?_
  rintro e w1 hp
  obtain ⟨g, rfl, k1, b1⟩ := hp
  have K := hid k1; have BB := hid b1
  clear k1 b1
  go_wp2_with fail
  refine (asm_if B g (aword 13 [110, 111, 119] [98, 97, 115, 101] 0 (aat [97, 103, 97, 105, 110] (aset [111, 110, 101] 1 (aregs [] anew)))) 11 [110, 111, 119] [97, 103, 97, 105, 110] w1 (Nat.le_trans hB BB.out.size) (by decide) (by decide) (by decide) (by decide) K.out).mono ?_
  rintro e w2 hp
  obtain ⟨rfl, k1, b1, z1⟩ := hp
  have K := hid k1; have BB := hid (BB.out.trans b1)
  clear k1 b1 z1
  go_wp2_with fail
  refine (rwl_change_w B g w2 (Nat.le_trans hB BB.out.size) K.out).mono ?_
  rintro e w99 ⟨v, rfl, h2, h3⟩
  have H2 := hid h2; have H3 := hid h3
  clear h2 h3
  go_wp2
  go_ret
  exact ⟨v, rfl, ⟨by rw [HBW.out]; exact H2.out, by rw [HBW.out]; exact BB.out.trans H3.out⟩⟩
set_option maxHeartbeats 1000000 in
theorem rwl_writeOut (w : World) : Calls Tryd.prog 53 #[] w fun e w' => CodePost w (writeOutCode) e w' := by
  go_enter Tryd.func53, Tryd.ntmps53
  go_wp2_with fail
  refine (asm_new w.heap.size [] none 0 0 w (Nat.le_refl _) (by simp) rfl (by decide) (.inl rfl)).mono ?_
  rintro e w1 hp
  obtain ⟨g, rfl, k1, b1, z1⟩ := hp
  have K := hid k1; have BB := hid b1
  clear k1 b1 z1
  go_wp2_with fail
  refine (asm_word w.heap.size g (aregs [] anew) 14 [122, 101, 114, 111] [98, 97, 115, 101] 0 w1 BB.out.size (by decide) (by decide) (by decide) (by decide) K.out).mono ?_
  rintro e w2 hp
  obtain ⟨rfl, k1, b1, z1⟩ := hp
  have K := hid k1; have BB := hid (BB.out.trans b1)
  clear k1 b1 z1
  go_wp2_with fail
  refine (asm_ops w.heap.size g (aword 14 [122, 101, 114, 111] [98, 97, 115, 101] 0 (aregs [] anew)) w2 BB.out.size (by decide +kernel) (by decide +kernel) (by decide +kernel) K.out).mono ?_
  rintro e w99 hp
  have HC := hid (CodePost.of (code := writeOutCode) BB.out hp (by decide +kernel))
  obtain ⟨v, rfl, ho⟩ := HC.out
  clear hp
  go_wp2
  go_ret
  exact ⟨v, rfl, ho⟩
end Go.Proofs.YtnoinojhocicjaaDoor
