/-
  Codes of package snap: their walks. Written by gen_codesn.py.
-/
import Derived.Test.YtabmkjokeeakdaaDoorCodes1
import Derived.Test.YtabmkjokeeakdaaDoorAsm4
import Derived.Test.YtabmkjokeeakdaaDoorCodesQ
import Derived.Test.YtabmkjokeeakdaaDoorWStep
namespace Go.Proofs.YtabmkjokeeakdaaDoor
open Go.RowKit Go.Maps
set_option linter.unusedVariables false

def lnm (s : Nm) (j : Nat) : Nm := s ++ [UInt8.ofNat (48 + j)]
theorem lnm_len (s : Nm) (j : Nat) : (lnm s j).length = s.length + 1 := by unfold lnm; simp
theorem lnm_v (j : Nat) : ((⟨#[97]⟩ : ByteArray) ++ (⟨(lnm [] j).toArray⟩ : ByteArray)) = ⟨(lnm [97] j).toArray⟩ := by kernel_rfl
/-- a code that is not too long yet -/
structure Sz (a : AC) (R O G P : Nat) : Prop where
  r : a.regs.length ≤ R
  o : a.ops.length ≤ O
  g : a.gotos.length ≤ G
  p : a.places.length ≤ P
theorem areg_gotos (s : Nm) (a : AC) : (areg s a).gotos = a.gotos := by unfold areg; split <;> rfl
theorem areg_places (s : Nm) (a : AC) : (areg s a).places = a.places := by unfold areg; split <;> rfl
section
variable {a : AC} {R O G P : Nat} (h : Sz a R O G P)
include h
theorem Sz.reg (s : Nm) : Sz (areg s a) (R + 1) O G P := ⟨by have := areg_len s a; have := h.r; omega, by rw [areg_ops]; exact h.o, by rw [areg_gotos]; exact h.g, by rw [areg_places]; exact h.p⟩
theorem Sz.op (o : Op5) : Sz (aop o a) R (O + 1) G P := ⟨h.r, by unfold aop; simp only [List.length_append, List.length_singleton]; have := h.o; omega, h.g, h.p⟩
theorem Sz.set_ (r : Nm) (n : Int) : Sz (aset r n a) (R + 1) (O + 1) G P := (h.reg r).op _
theorem Sz.do_ (k : Int) (r x y : Nm) : Sz (ado k r x y a) (R + 3) (O + 1) G P := (((h.reg r).reg x).reg y).op _
theorem Sz.copy_ (r x : Nm) : Sz (acopy r x a) (R + 2) (O + 1) G P := ((h.reg r).reg x).op _
theorem Sz.word_ (k : Int) (r x : Nm) (m : Int) : Sz (aword k r x m a) (R + 2) (O + 1) G P := ((h.reg r).reg x).op _
theorem Sz.at_ (p : Nm) : Sz (aat p a) R O G (P + 1) := ⟨h.r, h.o, h.g, by unfold aat; simp only [List.length_append, List.length_singleton]; have := h.p; omega⟩
theorem Sz.if_ (k : Int) (r p : Nm) : Sz (aif k r p a) (R + 1) (O + 1) (G + 1) P :=
  (Sz.reg (a := { a with gotos := a.gotos ++ [(a.ops.length, p)] }) ⟨h.r, h.o, by simp only [List.length_append, List.length_singleton]; have := h.g; omega, h.p⟩ r).op _
theorem Sz.tell_ (r : Nm) : Sz (atell [r] a) (R + 1) (O + 1) G P := (h.reg r).op _
end

theorem small_of (j : Nat) (w : World) (hj : j < 4) : Calls Tryd.prog 85 #[.int .i64 (j : Int)] w fun e w' => e = .returned (.string ⟨(lnm [] j).toArray⟩) ∧ w = w' := by
  have i0 : (0 : Int) ≤ (j : Int) := by omega
  have i4 : (j : Int) < 100 := by omega
  rcases (show j = 0 ∨ j = 1 ∨ j = 2 ∨ j = 3 by omega) with rfl | rfl | rfl | rfl
  all_goals
    go_enter Tryd.func85, Tryd.ntmps85
    go_wp2
    go_ret
    exact ⟨rfl, rfl⟩
theorem fmt_of (j : Nat) (w : World) (hj : j < 4) : Calls Tryd.prog 84 #[.int .i64 (j : Int), .int .i64 10] w fun e w' => e = .returned (.string ⟨(lnm [] j).toArray⟩) ∧ w = w' := by
  have i0 : (0 : Int) ≤ (j : Int) := by omega
  have i4 : (j : Int) < 100 := by omega
  go_enter Tryd.func84, Tryd.ntmps84
  go_wp2_with fail
  refine (small_of j w hj).mono ?_
  rintro e w' ⟨rfl, rfl⟩
  go_wp2
  go_ret
  exact ⟨rfl, rfl⟩
theorem itoa0_of (j : Nat) (w : World) (hj : j < 4) : Calls Tryd.prog 81 #[.int .i64 (j : Int)] w fun e w' => e = .returned (.string ⟨(lnm [] j).toArray⟩) ∧ w = w' := by
  have i0 : (0 : Int) ≤ (j : Int) := by omega
  have i4 : (j : Int) < 100 := by omega
  go_enter Tryd.func81, Tryd.ntmps81
  go_wp2_with fail
  refine (fmt_of j w hj).mono ?_
  rintro e w' ⟨rfl, rfl⟩
  go_wp2
  go_ret
  exact ⟨rfl, rfl⟩
theorem itoa_of (j : Nat) (w : World) (hj : j < 4) : Calls Tryd.prog 70 #[.int .i64 (j : Int)] w fun e w' => e = .returned (.string ⟨(lnm [] j).toArray⟩) ∧ w = w' := by
  have i0 : (0 : Int) ≤ (j : Int) := by omega
  have i4 : (j : Int) < 100 := by omega
  go_enter Tryd.func70, Tryd.ntmps70
  go_wp2_with fail
  refine (itoa0_of j w hj).mono ?_
  rintro e w' ⟨rfl, rfl⟩
  go_wp2
  go_ret
  exact ⟨rfl, rfl⟩
theorem cname_of (j : Nat) (w : World) (hj : j < 4) : Calls Tryd.prog 69 #[.string ⟨#[97]⟩, .int .i64 (j : Int)] w fun e w' => e = .returned (.string ⟨(lnm [97] j).toArray⟩) ∧ w = w' := by
  have i0 : (0 : Int) ≤ (j : Int) := by omega
  have i4 : (j : Int) < 100 := by omega
  go_enter Tryd.func69, Tryd.ntmps69
  go_wp2_with fail
  refine (itoa_of j w hj).mono ?_
  rintro e w' ⟨rfl, rfl⟩
  go_wp2
  try rw [lnm_v]
  go_ret
  exact ⟨rfl, rfl⟩
theorem Sz.le {a : AC} {R O G P R2 O2 G2 P2 : Nat} (h : Sz a R O G P) (h1 : R ≤ R2) (h2 : O ≤ O2) (h3 : G ≤ G2) (h4 : P ≤ P2) : Sz a R2 O2 G2 P2 := ⟨Nat.le_trans h.r h1, Nat.le_trans h.o h2, Nat.le_trans h.g h3, Nat.le_trans h.p h4⟩
theorem snap_may (N : Nat) (w : World) (h1 : 1 ≤ N) (h8 : N ≤ 4) : Calls Tryd.prog 68 #[.int .i64 (N : Int)] w fun e w' => e = .returned (.bool true) ∧ w = w' := by
  have i1 : (1 : Int) ≤ (N : Int) := by omega
  have i8 : (N : Int) ≤ 4 := by omega
  go_enter Tryd.func68, Tryd.ntmps68
  go_wp2
  go_ret
  exact ⟨rfl, rfl⟩

def nputCode : List Op5 := [⟨1, 2, 1048576, 0, 0⟩, ⟨13, 3, 0, 0, 0⟩, ⟨7, 4, 3, 2, 0⟩, ⟨4, 3, 3, 4, 0⟩, ⟨3, 3, 3, 2, 0⟩, ⟨3, 3, 3, 1, 0⟩, ⟨14, 3, 0, 0, 0⟩]
set_option maxHeartbeats 1000000 in
theorem snap_put (N : Nat) (w : World) (h1 : 1 ≤ N) (h8 : N ≤ 4) : Calls Tryd.prog 38 #[.int .i64 (N : Int)] w fun e w' => CodePost2 w (nputCode) e w' := by
  go_enter Tryd.func38, Tryd.ntmps38
  go_wp2_with fail
  refine (snap_may N w h1 h8).mono ?_
  rintro e w' ⟨rfl, rfl⟩
  go_wp2_with fail
  refine (asm_new w.heap.size [[112, 97, 114, 116], [118]] (some ⟨w.heap.size, 0, none⟩) 2 2 (w.alloc (.cells #[.string ⟨#[112, 97, 114, 116]⟩, .string ⟨#[118]⟩] 9)) (bnew (bnil w) _).size (by decide) rfl (by decide) (.inr ⟨_, rfl, Blk.new w _ _⟩)).mono ?_
  rintro e w1 hp
  obtain ⟨g, rfl, k1, b1, z1⟩ := hp
  have K := hid k1; have BB := hid ((bnew (bnil w) (.cells #[.string ⟨#[112, 97, 114, 116]⟩, .string ⟨#[118]⟩] 9)).trans b1)
  clear k1 b1 z1
  go_wp2_with fail
  refine (asm_set w.heap.size g (aregs [[112, 97, 114, 116], [118]] anew) [119, 105, 100, 101] 1048576 w1 BB.out.size (Nat.le_of_ble_eq_true (by kernel_rfl)) (Nat.le_of_ble_eq_true (by kernel_rfl)) (Nat.le_of_ble_eq_true (by kernel_rfl)) K.out).mono ?_
  rintro e w2 hp
  obtain ⟨rfl, k1, b1, z1⟩ := hp
  have K := hid k1; have BB := hid (BB.out.trans b1)
  clear k1 b1 z1
  go_wp2_with fail
  refine (asm_word w.heap.size g (aset [119, 105, 100, 101] 1048576 (aregs [[112, 97, 114, 116], [118]] anew)) 13 [111, 108, 100] [112, 97, 114, 116] 0 w2 BB.out.size (Nat.le_of_ble_eq_true (by kernel_rfl)) (Nat.le_of_ble_eq_true (by kernel_rfl)) (Nat.le_of_ble_eq_true (by kernel_rfl)) (Nat.le_of_ble_eq_true (by kernel_rfl)) K.out).mono ?_
  rintro e w3 hp
  obtain ⟨rfl, k1, b1, z1⟩ := hp
  have K := hid k1; have BB := hid (BB.out.trans b1)
  clear k1 b1 z1
  go_wp2_with fail
  refine (asm_do w.heap.size g (aword 13 [111, 108, 100] [112, 97, 114, 116] 0 (aset [119, 105, 100, 101] 1048576 (aregs [[112, 97, 114, 116], [118]] anew))) 7 [114, 101, 115, 116] [111, 108, 100] [119, 105, 100, 101] w3 BB.out.size (Nat.le_of_ble_eq_true (by kernel_rfl)) (Nat.le_of_ble_eq_true (by kernel_rfl)) (Nat.le_of_ble_eq_true (by kernel_rfl)) (Nat.le_of_ble_eq_true (by kernel_rfl)) (Nat.le_of_ble_eq_true (by kernel_rfl)) K.out).mono ?_
  rintro e w4 hp
  obtain ⟨rfl, k1, b1, z1⟩ := hp
  have K := hid k1; have BB := hid (BB.out.trans b1)
  clear k1 b1 z1
  go_wp2_with fail
  refine (asm_do w.heap.size g (ado 7 [114, 101, 115, 116] [111, 108, 100] [119, 105, 100, 101] (aword 13 [111, 108, 100] [112, 97, 114, 116] 0 (aset [119, 105, 100, 101] 1048576 (aregs [[112, 97, 114, 116], [118]] anew)))) 4 [111, 108, 100] [111, 108, 100] [114, 101, 115, 116] w4 BB.out.size (Nat.le_of_ble_eq_true (by kernel_rfl)) (Nat.le_of_ble_eq_true (by kernel_rfl)) (Nat.le_of_ble_eq_true (by kernel_rfl)) (Nat.le_of_ble_eq_true (by kernel_rfl)) (Nat.le_of_ble_eq_true (by kernel_rfl)) K.out).mono ?_
  rintro e w5 hp
  obtain ⟨rfl, k1, b1, z1⟩ := hp
  have K := hid k1; have BB := hid (BB.out.trans b1)
  clear k1 b1 z1
  go_wp2_with fail
  refine (asm_do w.heap.size g (ado 4 [111, 108, 100] [111, 108, 100] [114, 101, 115, 116] (ado 7 [114, 101, 115, 116] [111, 108, 100] [119, 105, 100, 101] (aword 13 [111, 108, 100] [112, 97, 114, 116] 0 (aset [119, 105, 100, 101] 1048576 (aregs [[112, 97, 114, 116], [118]] anew))))) 3 [111, 108, 100] [111, 108, 100] [119, 105, 100, 101] w5 BB.out.size (Nat.le_of_ble_eq_true (by kernel_rfl)) (Nat.le_of_ble_eq_true (by kernel_rfl)) (Nat.le_of_ble_eq_true (by kernel_rfl)) (Nat.le_of_ble_eq_true (by kernel_rfl)) (Nat.le_of_ble_eq_true (by kernel_rfl)) K.out).mono ?_
  rintro e w6 hp
  obtain ⟨rfl, k1, b1, z1⟩ := hp
  have K := hid k1; have BB := hid (BB.out.trans b1)
  clear k1 b1 z1
  go_wp2_with fail
  refine (asm_do w.heap.size g (ado 3 [111, 108, 100] [111, 108, 100] [119, 105, 100, 101] (ado 4 [111, 108, 100] [111, 108, 100] [114, 101, 115, 116] (ado 7 [114, 101, 115, 116] [111, 108, 100] [119, 105, 100, 101] (aword 13 [111, 108, 100] [112, 97, 114, 116] 0 (aset [119, 105, 100, 101] 1048576 (aregs [[112, 97, 114, 116], [118]] anew)))))) 3 [111, 108, 100] [111, 108, 100] [118] w6 BB.out.size (Nat.le_of_ble_eq_true (by kernel_rfl)) (Nat.le_of_ble_eq_true (by kernel_rfl)) (Nat.le_of_ble_eq_true (by kernel_rfl)) (Nat.le_of_ble_eq_true (by kernel_rfl)) (Nat.le_of_ble_eq_true (by kernel_rfl)) K.out).mono ?_
  rintro e w7 hp
  obtain ⟨rfl, k1, b1, z1⟩ := hp
  have K := hid k1; have BB := hid (BB.out.trans b1)
  clear k1 b1 z1
  go_wp2_with fail
  refine (asm_word w.heap.size g (ado 3 [111, 108, 100] [111, 108, 100] [118] (ado 3 [111, 108, 100] [111, 108, 100] [119, 105, 100, 101] (ado 4 [111, 108, 100] [111, 108, 100] [114, 101, 115, 116] (ado 7 [114, 101, 115, 116] [111, 108, 100] [119, 105, 100, 101] (aword 13 [111, 108, 100] [112, 97, 114, 116] 0 (aset [119, 105, 100, 101] 1048576 (aregs [[112, 97, 114, 116], [118]] anew))))))) 14 [111, 108, 100] [112, 97, 114, 116] 0 w7 BB.out.size (Nat.le_of_ble_eq_true (by kernel_rfl)) (Nat.le_of_ble_eq_true (by kernel_rfl)) (Nat.le_of_ble_eq_true (by kernel_rfl)) (Nat.le_of_ble_eq_true (by kernel_rfl)) K.out).mono ?_
  rintro e w8 hp
  obtain ⟨rfl, k1, b1, z1⟩ := hp
  have K := hid k1; have BB := hid (BB.out.trans b1)
  clear k1 b1 z1
  go_wp2_with fail
  refine (asm_ops w.heap.size g (aword 14 [111, 108, 100] [112, 97, 114, 116] 0 (ado 3 [111, 108, 100] [111, 108, 100] [118] (ado 3 [111, 108, 100] [111, 108, 100] [119, 105, 100, 101] (ado 4 [111, 108, 100] [111, 108, 100] [114, 101, 115, 116] (ado 7 [114, 101, 115, 116] [111, 108, 100] [119, 105, 100, 101] (aword 13 [111, 108, 100] [112, 97, 114, 116] 0 (aset [119, 105, 100, 101] 1048576 (aregs [[112, 97, 114, 116], [118]] anew)))))))) w8 BB.out.size (gotos_in (by kernel_rfl)) (Nat.le_of_ble_eq_true (by kernel_rfl)) (Nat.le_of_ble_eq_true (by kernel_rfl)) K.out).mono ?_
  rintro e w99 hp
  have HC := hid (CodePost.of (code := nputCode) BB.out hp (by kernel_rfl))
  obtain ⟨v, rfl, ho⟩ := HC.out
  clear hp
  go_wp2
  go_ret2
  exact ⟨v, rfl, ho⟩
def nscanS0 (n : Nat) : AC := (aat [97, 103, 97, 105, 110] (aset [119, 105, 100, 101] 1048576 (aregs [] anew)))
def nscanS1 (n : Nat) : Nat → AC
  | 0 => nscanS0 n
  | j + 1 => (aword 13 (lnm [97] j) [98, 97, 115, 101] (j : Int) (nscanS1 n j))
def nscanS2 (n : Nat) : AC := (nscanS1 n n)
def nscanS3 (n : Nat) : Nat → AC
  | 0 => nscanS2 n
  | j + 1 => (aif 12 [115, 97, 109, 101] [97, 103, 97, 105, 110] (ado 8 [115, 97, 109, 101] (lnm [97] j) [98] (aword 13 [98] [98, 97, 115, 101] (j : Int) (nscanS3 n j))))
def nscanS4 (n : Nat) : AC := (nscanS3 n n)
def nscanS5 (n : Nat) : Nat → AC
  | 0 => nscanS4 n
  | j + 1 => (atell [[118]] (ado 7 [118] (lnm [97] j) [119, 105, 100, 101] (nscanS5 n j)))
def nscanS6 (n : Nat) : AC := (nscanS5 n n)
theorem nscanS0_sz (n : Nat) : Sz (nscanS0 n) 6 6 5 6 := (((show Sz (aregs [] anew) 5 5 5 5 from ⟨Nat.le_of_ble_eq_true (by kernel_rfl), Nat.le_of_ble_eq_true (by kernel_rfl), Nat.le_of_ble_eq_true (by kernel_rfl), Nat.le_of_ble_eq_true (by kernel_rfl)⟩).set_ _ _).at_ _)
theorem nscanS1_sz (n : Nat) : ∀ j, Sz (nscanS1 n j) (6 + 0 * n + 2 * j) (6 + 0 * n + 1 * j) (5 + 0 * n + 0 * j) (6 + 0 * n + 0 * j)
  | 0 => (nscanS0_sz n).le (by omega) (by omega) (by omega) (by omega)
  | j + 1 => (((nscanS1_sz n j).word_ _ _ _ _)).le (by omega) (by omega) (by omega) (by omega)
theorem nscanS2_sz (n : Nat) : Sz (nscanS2 n) (6 + 2 * n) (6 + 1 * n) (5 + 0 * n) (6 + 0 * n) := ((nscanS1_sz n n)).le (by omega) (by omega) (by omega) (by omega)
theorem nscanS3_sz (n : Nat) : ∀ j, Sz (nscanS3 n j) (6 + 2 * n + 6 * j) (6 + 1 * n + 3 * j) (5 + 0 * n + 1 * j) (6 + 0 * n + 0 * j)
  | 0 => (nscanS2_sz n).le (by omega) (by omega) (by omega) (by omega)
  | j + 1 => (((((nscanS3_sz n j).word_ _ _ _ _).do_ _ _ _ _).if_ _ _ _)).le (by omega) (by omega) (by omega) (by omega)
theorem nscanS4_sz (n : Nat) : Sz (nscanS4 n) (6 + 8 * n) (6 + 4 * n) (5 + 1 * n) (6 + 0 * n) := ((nscanS3_sz n n)).le (by omega) (by omega) (by omega) (by omega)
theorem nscanS5_sz (n : Nat) : ∀ j, Sz (nscanS5 n j) (6 + 8 * n + 4 * j) (6 + 4 * n + 2 * j) (5 + 1 * n + 0 * j) (6 + 0 * n + 0 * j)
  | 0 => (nscanS4_sz n).le (by omega) (by omega) (by omega) (by omega)
  | j + 1 => ((((nscanS5_sz n j).do_ _ _ _ _).tell_ _)).le (by omega) (by omega) (by omega) (by omega)
theorem nscanS6_sz (n : Nat) : Sz (nscanS6 n) (6 + 12 * n) (6 + 6 * n) (5 + 1 * n) (6 + 0 * n) := ((nscanS5_sz n n)).le (by omega) (by omega) (by omega) (by omega)
def nscanCode : Nat → List Op5
  | 1 => [⟨1, 0, 1048576, 0, 0⟩, ⟨13, 1, 2, 0, 0⟩, ⟨13, 3, 2, 0, 0⟩, ⟨8, 4, 1, 3, 0⟩, ⟨12, 4, 1, 0, 0⟩, ⟨7, 5, 1, 0, 0⟩, ⟨16, 5, 0, 0, 0⟩]
  | 2 => [⟨1, 0, 1048576, 0, 0⟩, ⟨13, 1, 2, 0, 0⟩, ⟨13, 3, 2, 1, 0⟩, ⟨13, 4, 2, 0, 0⟩, ⟨8, 5, 1, 4, 0⟩, ⟨12, 5, 1, 0, 0⟩, ⟨13, 4, 2, 1, 0⟩, ⟨8, 5, 3, 4, 0⟩, ⟨12, 5, 1, 0, 0⟩, ⟨7, 6, 1, 0, 0⟩, ⟨16, 6, 0, 0, 0⟩, ⟨7, 6, 3, 0, 0⟩, ⟨16, 6, 0, 0, 0⟩]
  | 3 => [⟨1, 0, 1048576, 0, 0⟩, ⟨13, 1, 2, 0, 0⟩, ⟨13, 3, 2, 1, 0⟩, ⟨13, 4, 2, 2, 0⟩, ⟨13, 5, 2, 0, 0⟩, ⟨8, 6, 1, 5, 0⟩, ⟨12, 6, 1, 0, 0⟩, ⟨13, 5, 2, 1, 0⟩, ⟨8, 6, 3, 5, 0⟩, ⟨12, 6, 1, 0, 0⟩, ⟨13, 5, 2, 2, 0⟩, ⟨8, 6, 4, 5, 0⟩, ⟨12, 6, 1, 0, 0⟩, ⟨7, 7, 1, 0, 0⟩, ⟨16, 7, 0, 0, 0⟩, ⟨7, 7, 3, 0, 0⟩, ⟨16, 7, 0, 0, 0⟩, ⟨7, 7, 4, 0, 0⟩, ⟨16, 7, 0, 0, 0⟩]
  | 4 => [⟨1, 0, 1048576, 0, 0⟩, ⟨13, 1, 2, 0, 0⟩, ⟨13, 3, 2, 1, 0⟩, ⟨13, 4, 2, 2, 0⟩, ⟨13, 5, 2, 3, 0⟩, ⟨13, 6, 2, 0, 0⟩, ⟨8, 7, 1, 6, 0⟩, ⟨12, 7, 1, 0, 0⟩, ⟨13, 6, 2, 1, 0⟩, ⟨8, 7, 3, 6, 0⟩, ⟨12, 7, 1, 0, 0⟩, ⟨13, 6, 2, 2, 0⟩, ⟨8, 7, 4, 6, 0⟩, ⟨12, 7, 1, 0, 0⟩, ⟨13, 6, 2, 3, 0⟩, ⟨8, 7, 5, 6, 0⟩, ⟨12, 7, 1, 0, 0⟩, ⟨7, 8, 1, 0, 0⟩, ⟨16, 8, 0, 0, 0⟩, ⟨7, 8, 3, 0, 0⟩, ⟨16, 8, 0, 0, 0⟩, ⟨7, 8, 4, 0, 0⟩, ⟨16, 8, 0, 0, 0⟩, ⟨7, 8, 5, 0, 0⟩, ⟨16, 8, 0, 0, 0⟩]
  | _ => []
theorem nscan_ops {n : Nat} (h1 : 1 ≤ n) (h6 : n ≤ 4) : aops (nscanS6 n) = nscanCode n := by
  rcases (show n = 1 ∨ n = 2 ∨ n = 3 ∨ n = 4 by omega) with rfl | rfl | rfl | rfl
  · kernel_rfl
  · kernel_rfl
  · kernel_rfl
  · kernel_rfl
theorem nscan_go {n : Nat} (h1 : 1 ≤ n) (h6 : n ≤ 4) : ((nscanS6 n).gotos.all fun x => Nat.blt x.1 (nscanS6 n).ops.length && Nat.ble x.2.length 100) = true := by
  rcases (show n = 1 ∨ n = 2 ∨ n = 3 ∨ n = 4 by omega) with rfl | rfl | rfl | rfl
  · kernel_rfl
  · kernel_rfl
  · kernel_rfl
  · kernel_rfl
set_option maxHeartbeats 4000000 in
theorem snap_scan (n : Nat) (w : World) (h1 : 1 ≤ n) (h6 : n ≤ 4) : Calls Tryd.prog 39 #[.int .i64 (n : Int)] w fun e w' => CodePost2 w (nscanCode n) e w' := by
  go_enter Tryd.func39, Tryd.ntmps39
  go_wp2_with fail
  refine (snap_may n w h1 h6).mono ?_
  rintro e w' ⟨rfl, rfl⟩
  go_wp2_with fail
  refine (asm_new w.heap.size [] none 0 0 w (Nat.le_refl _) (by simp) rfl (by decide) (.inl rfl)).mono ?_
  rintro e w1 hp
  obtain ⟨g, rfl, k1, b1, z1⟩ := hp
  have K := hid k1; have BB := hid b1
  obtain ⟨B, hBw⟩ : ∃ B, w.heap.size = B := ⟨_, rfl⟩
  have hB : B ≤ w.heap.size := by omega
  have HBW := hid hBw
  rw [hBw] at K BB
  clear k1 b1 z1 hBw
  have S := hid (show Sz (aregs [] anew) 5 5 5 5 from ⟨Nat.le_of_ble_eq_true (by kernel_rfl), Nat.le_of_ble_eq_true (by kernel_rfl), Nat.le_of_ble_eq_true (by kernel_rfl), Nat.le_of_ble_eq_true (by kernel_rfl)⟩)
  go_wp2_with fail
  refine (asm_set B g (aregs [] anew) [119, 105, 100, 101] 1048576 w1 (Nat.le_trans hB BB.out.size) (Nat.le_of_ble_eq_true rfl) (by have := S.out.r; omega) (by have := S.out.o; omega) K.out).mono ?_
  rintro e w2 hp
  obtain ⟨rfl, k1, b1, z1⟩ := hp
  have K := hid k1; have BB := hid (BB.out.trans b1); have S := hid (S.out.set_ [119, 105, 100, 101] 1048576)
  clear k1 b1 z1
  go_wp2_with fail
  refine (asm_at B g (aset [119, 105, 100, 101] 1048576 (aregs [] anew)) [97, 103, 97, 105, 110] w2 (Nat.le_trans hB BB.out.size) (Nat.le_of_ble_eq_true rfl) (by have := S.out.o; omega) (by have := S.out.p; omega) K.out).mono ?_
  rintro e w3 hp
  obtain ⟨rfl, k1, b1, z1⟩ := hp
  have K := hid k1; have BB := hid (BB.out.trans b1); have S := hid (S.out.at_ [97, 103, 97, 105, 110])
  clear k1 b1 z1
  clear S
  go_wp2_with fail
  go_loopw [16] (fun v wr => ∃ j : Nat, j ≤ n ∧ v = .int .i64 j ∧ Hid (ACat B wr g (nscanS1 n j)) ∧ Hid (Below B w wr)) (fun v _ => n - (intOf v).toNat)
  case atStart => exact ⟨0, Nat.zero_le _, rfl, K, BB⟩
  case round =>
    clear K BB
    obtain ⟨j, hj, rfl, K, BB⟩ := hrel
    by_cases hlt : j < n
    · have i1 : (j : Int) < (n : Int) := by omega
      have S := hid (show Sz (nscanS1 n j) 200 200 200 200 from (nscanS1_sz n j).le (by omega) (by omega) (by omega) (by omega))
      go_wp2_with fail
      refine (cname_of j _ (by omega)).mono ?_
      rintro e w' ⟨rfl, rfl⟩
      go_wp2_with fail
      refine (asm_word B g (nscanS1 n j) 13 (lnm [97] j) [98, 97, 115, 101] (j : Int) wr (Nat.le_trans hB BB.out.size) (by rw [lnm_len]; exact Nat.le_of_ble_eq_true rfl) (Nat.le_of_ble_eq_true rfl) (by have := S.out.r; omega) (by have := S.out.o; omega) K.out).mono ?_
      rintro e v2_1 hp
      obtain ⟨rfl, k1, b1, z1⟩ := hp
      have K := hid k1; have BB := hid (BB.out.trans b1); have S := hid (S.out.word_ 13 (lnm [97] j) [98, 97, 115, 101] (j : Int))
      clear k1 b1 z1
      clear S
      go_wp2_with fail
      go_roundw
      case rel => exact ⟨j + 1, by omega, by go_num, K, BB⟩
      case measure => simp [intOf]; omega
    · obtain rfl : j = n := by omega
      have i1 : ¬ (j : Int) < (j : Int) := by omega
      obtain ⟨n, hn⟩ : ∃ n, n = j := ⟨_, rfl⟩
      subst hn
      have S := hid (show Sz (nscanS1 n n) 200 200 200 200 from (nscanS1_sz n n).le (by omega) (by omega) (by omega) (by omega))
      clear S
      go_wp2_with fail
      go_loopw [27] (fun v wr => ∃ j : Nat, j ≤ n ∧ v = .int .i64 j ∧ Hid (ACat B wr g (nscanS3 n j)) ∧ Hid (Below B w wr)) (fun v _ => n - (intOf v).toNat)
      case atStart => exact ⟨0, Nat.zero_le _, rfl, K, BB⟩
      case round =>
        clear K BB
        obtain ⟨j, hj, rfl, K, BB⟩ := hrel
        by_cases hlt : j < n
        · have i1 : (j : Int) < (n : Int) := by omega
          have S := hid (show Sz (nscanS3 n j) 200 200 200 200 from (nscanS3_sz n j).le (by omega) (by omega) (by omega) (by omega))
          go_wp2_with fail
          refine (asm_word B g (nscanS3 n j) 13 [98] [98, 97, 115, 101] (j : Int) wr (Nat.le_trans hB BB.out.size) (Nat.le_of_ble_eq_true rfl) (Nat.le_of_ble_eq_true rfl) (by have := S.out.r; omega) (by have := S.out.o; omega) K.out).mono ?_
          rintro e v4_0 hp
          obtain ⟨rfl, k1, b1, z1⟩ := hp
          have K := hid k1; have BB := hid (BB.out.trans b1); have S := hid (S.out.word_ 13 [98] [98, 97, 115, 101] (j : Int))
          clear k1 b1 z1
          go_wp2_with fail
          refine (cname_of j _ (by omega)).mono ?_
          rintro e w' ⟨rfl, rfl⟩
          go_wp2_with fail
          refine (asm_do B g (aword 13 [98] [98, 97, 115, 101] (j : Int) (nscanS3 n j)) 8 [115, 97, 109, 101] (lnm [97] j) [98] v4_0 (Nat.le_trans hB BB.out.size) (Nat.le_of_ble_eq_true rfl) (by rw [lnm_len]; exact Nat.le_of_ble_eq_true rfl) (Nat.le_of_ble_eq_true rfl) (by have := S.out.r; omega) (by have := S.out.o; omega) K.out).mono ?_
          rintro e v4_2 hp
          obtain ⟨rfl, k1, b1, z1⟩ := hp
          have K := hid k1; have BB := hid (BB.out.trans b1); have S := hid (S.out.do_ 8 [115, 97, 109, 101] (lnm [97] j) [98])
          clear k1 b1 z1
          go_wp2_with fail
          refine (asm_if B g (ado 8 [115, 97, 109, 101] (lnm [97] j) [98] (aword 13 [98] [98, 97, 115, 101] (j : Int) (nscanS3 n j))) 12 [115, 97, 109, 101] [97, 103, 97, 105, 110] v4_2 (Nat.le_trans hB BB.out.size) (Nat.le_of_ble_eq_true rfl) (by have := S.out.r; omega) (by have := S.out.o; omega) (by have := S.out.g; omega) K.out).mono ?_
          rintro e v4_3 hp
          obtain ⟨rfl, k1, b1, z1⟩ := hp
          have K := hid k1; have BB := hid (BB.out.trans b1); have S := hid (S.out.if_ 12 [115, 97, 109, 101] [97, 103, 97, 105, 110])
          clear k1 b1 z1
          clear S
          go_wp2_with fail
          go_roundw
          case rel => exact ⟨j + 1, by omega, by go_num, K, BB⟩
          case measure => simp [intOf]; omega
        · obtain rfl : j = n := by omega
          have i1 : ¬ (j : Int) < (j : Int) := by omega
          obtain ⟨n, hn⟩ : ∃ n, n = j := ⟨_, rfl⟩
          subst hn
          have S := hid (show Sz (nscanS3 n n) 200 200 200 200 from (nscanS3_sz n n).le (by omega) (by omega) (by omega) (by omega))
          clear S
          go_wp2_with fail
          go_loopw [40] (fun v wr => ∃ j : Nat, j ≤ n ∧ v = .int .i64 j ∧ Hid (ACat B wr g (nscanS5 n j)) ∧ Hid (Below B w wr)) (fun v _ => n - (intOf v).toNat)
          case atStart => exact ⟨0, Nat.zero_le _, rfl, K, BB⟩
          case round =>
            clear K BB
            obtain ⟨j, hj, rfl, K, BB⟩ := hrel
            by_cases hlt : j < n
            · have i1 : (j : Int) < (n : Int) := by omega
              have S := hid (show Sz (nscanS5 n j) 200 200 200 200 from (nscanS5_sz n j).le (by omega) (by omega) (by omega) (by omega))
              go_wp2_with fail
              refine (cname_of j _ (by omega)).mono ?_
              rintro e w' ⟨rfl, rfl⟩
              go_wp2_with fail
              refine (asm_do B g (nscanS5 n j) 7 [118] (lnm [97] j) [119, 105, 100, 101] wr (Nat.le_trans hB BB.out.size) (Nat.le_of_ble_eq_true rfl) (by rw [lnm_len]; exact Nat.le_of_ble_eq_true rfl) (Nat.le_of_ble_eq_true rfl) (by have := S.out.r; omega) (by have := S.out.o; omega) K.out).mono ?_
              rintro e v6_1 hp
              obtain ⟨rfl, k1, b1, z1⟩ := hp
              have K := hid k1; have BB := hid (BB.out.trans b1); have S := hid (S.out.do_ 7 [118] (lnm [97] j) [119, 105, 100, 101])
              clear k1 b1 z1
              go_wp2_with fail
              refine (asm_tell B g (ado 7 [118] (lnm [97] j) [119, 105, 100, 101] (nscanS5 n j)) [[118]] v6_1.heap.size 1 (v6_1.alloc (.cells #[.string ⟨#[118]⟩] 9)) (Nat.le_trans (Nat.le_trans hB BB.out.size) (bnew (bnil _) _).size) (fun s hs => by rw [List.mem_singleton.1 hs]; exact Nat.le_of_ble_eq_true rfl) rfl (by decide) (by have := S.out.r; omega) (by have := S.out.o; omega) (K.out.below (bnew (bnil _) _)) (Blk.new v6_1 _ _)).mono ?_
              rintro e v6_2 hp
              obtain ⟨rfl, k1, b1, z1⟩ := hp
              have K := hid k1; have BB := hid ((BB.out.alloc (Nat.le_trans hB BB.out.size) (.cells #[.string ⟨#[118]⟩] 9)).trans b1); have S := hid (S.out.tell_ [118])
              clear k1 b1 z1
              clear S
              go_wp2_with fail
              go_roundw
              case rel => exact ⟨j + 1, by omega, by go_num, K, BB⟩
              case measure => simp [intOf]; omega
            · obtain rfl : j = n := by omega
              have i1 : ¬ (j : Int) < (j : Int) := by omega
              obtain ⟨n, hn⟩ : ∃ n, n = j := ⟨_, rfl⟩
              subst hn
              have S := hid (show Sz (nscanS5 n n) 200 200 200 200 from (nscanS5_sz n n).le (by omega) (by omega) (by omega) (by omega))
              go_wp2_with fail
              refine (asm_ops B g (nscanS6 n) wr (Nat.le_trans hB BB.out.size) (gotos_in (nscan_go h1 h6)) (by have := (nscanS6_sz n).o; omega) (by have := (nscanS6_sz n).g; omega) K.out).mono ?_
              rintro e w99 hp
              rw [← HBW.out] at hp
              have HC := hid (CodePost.of (code := nscanCode n) (show Below w.heap.size w wr by rw [HBW.out]; exact BB.out) hp (nscan_ops h1 h6))
              obtain ⟨v, rfl, ho⟩ := HC.out
              clear hp S
              go_wp2
              go_ret2
              exact ⟨v, rfl, ho⟩
theorem nscan_sh {n : Nat} (h1 : 1 ≤ n) (h6 : n ≤ 4) : ∀ o ∈ nscanCode n, OpSh (nscanCode n).length o := by
  intro o ho
  rcases (show n = 1 ∨ n = 2 ∨ n = 3 ∨ n = 4 by omega) with rfl | rfl | rfl | rfl
  all_goals
    simp only [nscanCode, List.mem_cons, List.not_mem_nil, or_false] at ho
    repeat' (rcases ho with rfl | ho)
    all_goals first | exact ⟨by decide, by decide, by decide, by decide, by decide⟩ | (subst ho; exact ⟨by decide, by decide, by decide, by decide, by decide⟩)
theorem mk_intsL (w : World) (n : Nat) (hn : n ≤ 1000) : ∃ cs : Array Value, cs.toList = (List.replicate n (0 : Int)).flatMap gI ∧ (Instr.makeSlice 25 (.int .i64 (n : Int)) (.int .i64 (n : Int))).run Tryd.prog w = .ok (.slice (some ⟨w.heap.size, 0, none⟩) n n) (w.alloc (.cells cs 3)) := by
  have h := run_make_row' (P := Tryd.prog) 25 3 (.int .i64 0) 8 Tryd.underlying25 (by kernel_rfl) rfl .i64 .i64 n (by omega) (by omega) w
  refine ⟨_, ?_, h⟩
  rw [Go.toList_madeCells_one]
  clear h hn
  induction n with
  | zero => rfl
  | succ n ih => rw [List.replicate_succ, List.replicate_succ, List.flatMap_cons, ← ih]; rfl
set_option maxHeartbeats 1000000 in
theorem snap_words (n : Nat) (w : World) (h1 : 1 ≤ n) (h6 : n ≤ 4) : Calls Tryd.prog 37 #[.int .i64 (n : Int)] w fun e w' => ∃ v, e = .returned (.tuple #[v, .int .i64 0]) ∧ Ow w w' 3 1 gI v (List.replicate n 0) := by
  obtain ⟨cs, hcs, hmk⟩ := mk_intsL w n (by omega)
  rw [show ((n : Nat) : Int) = (n : Int) by omega] at hmk
  have HCS := hid hcs
  clear hcs
  go_enter Tryd.func37, Tryd.ntmps37
  go_wp2_with fail
  refine (snap_may n w h1 h6).mono ?_
  rintro e w' ⟨rfl, rfl⟩
  go_wp2
  go_ret2
  have hl : cs.size = n := by rw [← Array.length_toList, HCS.out, flatMap_len gI 1 (fun _ => rfl)]; simp
  refine ⟨_, rfl, ⟨⟨by simp, .inr ⟨w.heap.size, n, cs, by rw [List.length_replicate]; rfl, Nat.le_refl _, Blk.new w _ _, by simp, by unfold maxLen; omega, by rw [hl]; simp, ?_⟩⟩, bnew (bnil w) _⟩⟩
  rw [HCS.out, List.take_of_length_le]
  · rw [flatMap_len gI 1 (fun _ => rfl)]; simp
end Go.Proofs.YtabmkjokeeakdaaDoor
