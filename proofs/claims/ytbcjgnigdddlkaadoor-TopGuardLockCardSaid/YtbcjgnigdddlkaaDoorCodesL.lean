/-
  Codes of package lock: their walks. Written by gen_codesl.py.
-/
import Derived.Test.YtbcjgnigdddlkaaDoorCodes1
import Derived.Test.YtbcjgnigdddlkaaDoorAsm4
import Derived.Test.YtbcjgnigdddlkaaDoorCodesQ
import Derived.Test.YtbcjgnigdddlkaaDoorWStep
namespace Go.Proofs.YtbcjgnigdddlkaaDoor
open Go.RowKit Go.Maps
set_option linter.unusedVariables false

def lnm (s : Nm) (j : Nat) : Nm := s ++ [UInt8.ofNat (48 + j)]
theorem lnm_len (s : Nm) (j : Nat) : (lnm s j).length = s.length + 1 := by unfold lnm; simp
theorem lnm_less (j : Nat) : ((⟨#[108, 101, 115, 115]⟩ : ByteArray) ++ (⟨(lnm [] j).toArray⟩ : ByteArray)) = ⟨(lnm [108, 101, 115, 115] j).toArray⟩ := by kernel_rfl
theorem lnm_next (j : Nat) : ((⟨#[110, 101, 120, 116]⟩ : ByteArray) ++ (⟨(lnm [] j).toArray⟩ : ByteArray)) = ⟨(lnm [110, 101, 120, 116] j).toArray⟩ := by kernel_rfl
theorem lnm_takes (j : Nat) : ((⟨#[116, 97, 107, 101, 115]⟩ : ByteArray) ++ (⟨(lnm [] j).toArray⟩ : ByteArray)) = ⟨(lnm [116, 97, 107, 101, 115] j).toArray⟩ := by kernel_rfl
theorem lnm_has (j : Nat) : ((⟨#[104, 97, 115]⟩ : ByteArray) ++ (⟨(lnm [] j).toArray⟩ : ByteArray)) = ⟨(lnm [104, 97, 115] j).toArray⟩ := by kernel_rfl
/-- a code that is not too long yet -/
structure Sz (a : AC) (R O G P : Nat) : Prop where
  r : a.regs.length ≤ R
  o : a.ops.length ≤ O
  g : a.gotos.length ≤ G
  p : a.places.length ≤ P
theorem areg_gotos (s : Nm) (a : AC) : (areg s a).gotos = a.gotos := by unfold areg; split <;> rfl
theorem areg_places (s : Nm) (a : AC) : (areg s a).places = a.places := by unfold areg; split <;> rfl
section
variable {a : AC} {R O G P : Nat} (h : Sz a R O G P)
include h
theorem Sz.reg (s : Nm) : Sz (areg s a) (R + 1) O G P := ⟨by have := areg_len s a; have := h.r; omega, by rw [areg_ops]; exact h.o, by rw [areg_gotos]; exact h.g, by rw [areg_places]; exact h.p⟩
theorem Sz.op (o : Op5) : Sz (aop o a) R (O + 1) G P := ⟨h.r, by unfold aop; simp only [List.length_append, List.length_singleton]; have := h.o; omega, h.g, h.p⟩
theorem Sz.set_ (r : Nm) (n : Int) : Sz (aset r n a) (R + 1) (O + 1) G P := (h.reg r).op _
theorem Sz.do_ (k : Int) (r x y : Nm) : Sz (ado k r x y a) (R + 3) (O + 1) G P := (((h.reg r).reg x).reg y).op _
theorem Sz.copy_ (r x : Nm) : Sz (acopy r x a) (R + 2) (O + 1) G P := ((h.reg r).reg x).op _
theorem Sz.word_ (k : Int) (r x : Nm) (m : Int) : Sz (aword k r x m a) (R + 2) (O + 1) G P := ((h.reg r).reg x).op _
theorem Sz.at_ (p : Nm) : Sz (aat p a) R O G (P + 1) := ⟨h.r, h.o, h.g, by unfold aat; simp only [List.length_append, List.length_singleton]; have := h.p; omega⟩
theorem Sz.if_ (k : Int) (r p : Nm) : Sz (aif k r p a) (R + 1) (O + 1) (G + 1) P :=
  (Sz.reg (a := { a with gotos := a.gotos ++ [(a.ops.length, p)] }) ⟨h.r, h.o, by simp only [List.length_append, List.length_singleton]; have := h.g; omega, h.p⟩ r).op _
end

theorem small_of (j : Nat) (w : World) (hj : j < 4) : Calls Tryd.prog 108 #[.int .i64 (j : Int)] w fun e w' => e = .returned (.string ⟨(lnm [] j).toArray⟩) ∧ w = w' := by
  have i0 : (0 : Int) ≤ (j : Int) := by omega
  have i4 : (j : Int) < 100 := by omega
  rcases (show j = 0 ∨ j = 1 ∨ j = 2 ∨ j = 3 by omega) with rfl | rfl | rfl | rfl
  all_goals
    go_enter Tryd.func108, Tryd.ntmps108
    go_wp2
    go_ret
    exact ⟨rfl, rfl⟩
theorem fmt_of (j : Nat) (w : World) (hj : j < 4) : Calls Tryd.prog 105 #[.int .i64 (j : Int), .int .i64 10] w fun e w' => e = .returned (.string ⟨(lnm [] j).toArray⟩) ∧ w = w' := by
  have i0 : (0 : Int) ≤ (j : Int) := by omega
  have i4 : (j : Int) < 100 := by omega
  go_enter Tryd.func105, Tryd.ntmps105
  go_wp2_with fail
  refine (small_of j w hj).mono ?_
  rintro e w' ⟨rfl, rfl⟩
  go_wp2
  go_ret
  exact ⟨rfl, rfl⟩
theorem itoa0_of (j : Nat) (w : World) (hj : j < 4) : Calls Tryd.prog 85 #[.int .i64 (j : Int)] w fun e w' => e = .returned (.string ⟨(lnm [] j).toArray⟩) ∧ w = w' := by
  have i0 : (0 : Int) ≤ (j : Int) := by omega
  have i4 : (j : Int) < 100 := by omega
  go_enter Tryd.func85, Tryd.ntmps85
  go_wp2_with fail
  refine (fmt_of j w hj).mono ?_
  rintro e w' ⟨rfl, rfl⟩
  go_wp2
  go_ret
  exact ⟨rfl, rfl⟩
theorem itoa_of (j : Nat) (w : World) (hj : j < 4) : Calls Tryd.prog 47 #[.int .i64 (j : Int)] w fun e w' => e = .returned (.string ⟨(lnm [] j).toArray⟩) ∧ w = w' := by
  have i0 : (0 : Int) ≤ (j : Int) := by omega
  have i4 : (j : Int) < 100 := by omega
  go_enter Tryd.func47, Tryd.ntmps47
  go_wp2_with fail
  refine (itoa0_of j w hj).mono ?_
  rintro e w' ⟨rfl, rfl⟩
  go_wp2
  go_ret
  exact ⟨rfl, rfl⟩
def lwait (n j : Nat) (a : AC) : AC := (aat (lnm [110, 101, 120, 116] j) (aif 11 [108, 101, 115, 115] (lnm [104, 97, 115] j) (ado 9 [108, 101, 115, 115] [106] [109, 101] (aif 12 [115, 97, 109, 101] (lnm [104, 97, 115] j) (ado 8 [115, 97, 109, 101] [109, 105, 110, 101] [111, 116, 104, 101, 114] (aif 11 [108, 101, 115, 115] (lnm [110, 101, 120, 116] j) (ado 9 [108, 101, 115, 115] [109, 105, 110, 101] [111, 116, 104, 101, 114] (aif 12 [111, 116, 104, 101, 114] (lnm [110, 101, 120, 116] j) (aword 13 [111, 116, 104, 101, 114] [106] (n : Int) (aat (lnm [104, 97, 115] j) (aif 11 [111, 116, 104, 101, 114] (lnm [116, 97, 107, 101, 115] j) (aword 13 [111, 116, 104, 101, 114] [106] 0 (aat (lnm [116, 97, 107, 101, 115] j) (aif 11 [115, 97, 109, 101] (lnm [110, 101, 120, 116] j) (ado 8 [115, 97, 109, 101] [106] [109, 101] (aset [106] (j : Int) a))))))))))))))))
theorem lwait_sz {a : AC} {R O G P : Nat} (h : Sz a R O G P) (n j : Nat) : Sz (lwait n j a) (R + 25) (O + 13) (G + 6) (P + 3) := by
  exact ⟨Nat.le_trans ((((((((((((((((h.set_ _ _).do_ _ _ _ _).if_ _ _ _).at_ _).word_ _ _ _ _).if_ _ _ _).at_ _).word_ _ _ _ _).if_ _ _ _).do_ _ _ _ _).if_ _ _ _).do_ _ _ _ _).if_ _ _ _).do_ _ _ _ _).if_ _ _ _).at_ _).r (by omega), Nat.le_trans ((((((((((((((((h.set_ _ _).do_ _ _ _ _).if_ _ _ _).at_ _).word_ _ _ _ _).if_ _ _ _).at_ _).word_ _ _ _ _).if_ _ _ _).do_ _ _ _ _).if_ _ _ _).do_ _ _ _ _).if_ _ _ _).do_ _ _ _ _).if_ _ _ _).at_ _).o (by omega), Nat.le_trans ((((((((((((((((h.set_ _ _).do_ _ _ _ _).if_ _ _ _).at_ _).word_ _ _ _ _).if_ _ _ _).at_ _).word_ _ _ _ _).if_ _ _ _).do_ _ _ _ _).if_ _ _ _).do_ _ _ _ _).if_ _ _ _).do_ _ _ _ _).if_ _ _ _).at_ _).g (by omega), Nat.le_trans ((((((((((((((((h.set_ _ _).do_ _ _ _ _).if_ _ _ _).at_ _).word_ _ _ _ _).if_ _ _ _).at_ _).word_ _ _ _ _).if_ _ _ _).do_ _ _ _ _).if_ _ _ _).do_ _ _ _ _).if_ _ _ _).do_ _ _ _ _).if_ _ _ _).at_ _).p (by omega)⟩
set_option maxHeartbeats 2000000 in
theorem lock_wait (B g n j : Nat) (a : AC) (w : World) (hB : B ≤ w.heap.size) (hn : n ≤ 4) (hj : j < 4) (hS : Sz a 300 200 200 200) (K0 : ACat B w g a) :
    Calls Tryd.prog 52 #[.pointer (some ⟨g, 0, none⟩), .int .i64 (n : Int), .int .i64 (j : Int)] w fun e w' => e = .returned (.tuple #[]) ∧ ACat B w' g (lwait n j a) ∧ Below B w w' := by
  have K := hid K0; clear K0
  have BB := hid (Below.refl B w)
  have S := hid hS; clear hS
  have i0 : (0 : Int) ≤ (j : Int) := by omega
  have i4 : (j : Int) < 4 := by omega
  go_enter Tryd.func52, Tryd.ntmps52
  go_wp2_with fail
  refine (itoa_of j w hj).mono ?_
  rintro e w' ⟨rfl, rfl⟩
  go_wp2_with fail
  refine (asm_set B g a [106] (j : Int) w (Nat.le_trans hB BB.out.size) (Nat.le_of_ble_eq_true rfl) (by have := S.out.r; omega) (by have := S.out.o; omega) K.out).mono ?_
  rintro e w1 hp
  obtain ⟨rfl, k1, b1, z1⟩ := hp
  have K := hid k1; have BB := hid (BB.out.trans b1); have S := hid (S.out.set_ [106] (j : Int))
  clear k1 b1 z1
  go_wp2_with fail
  refine (asm_do B g (aset [106] (j : Int) a) 8 [115, 97, 109, 101] [106] [109, 101] w1 (Nat.le_trans hB BB.out.size) (Nat.le_of_ble_eq_true rfl) (Nat.le_of_ble_eq_true rfl) (Nat.le_of_ble_eq_true rfl) (by have := S.out.r; omega) (by have := S.out.o; omega) K.out).mono ?_
  rintro e w2 hp
  obtain ⟨rfl, k1, b1, z1⟩ := hp
  have K := hid k1; have BB := hid (BB.out.trans b1); have S := hid (S.out.do_ 8 [115, 97, 109, 101] [106] [109, 101])
  clear k1 b1 z1
  go_wp2_with fail
  (try rw [lnm_less]); (try rw [lnm_next]); (try rw [lnm_takes]); (try rw [lnm_has]); refine (asm_if B g (ado 8 [115, 97, 109, 101] [106] [109, 101] (aset [106] (j : Int) a)) 11 [115, 97, 109, 101] (lnm [110, 101, 120, 116] j) w2 (Nat.le_trans hB BB.out.size) (Nat.le_of_ble_eq_true rfl) (by have := S.out.r; omega) (by have := S.out.o; omega) (by have := S.out.g; omega) K.out).mono ?_
  rintro e w3 hp
  obtain ⟨rfl, k1, b1, z1⟩ := hp
  have K := hid k1; have BB := hid (BB.out.trans b1); have S := hid (S.out.if_ 11 [115, 97, 109, 101] (lnm [110, 101, 120, 116] j))
  clear k1 b1 z1
  go_wp2_with fail
  (try rw [lnm_less]); (try rw [lnm_next]); (try rw [lnm_takes]); (try rw [lnm_has]); refine (asm_at B g (aif 11 [115, 97, 109, 101] (lnm [110, 101, 120, 116] j) (ado 8 [115, 97, 109, 101] [106] [109, 101] (aset [106] (j : Int) a))) (lnm [116, 97, 107, 101, 115] j) w3 (Nat.le_trans hB BB.out.size) (by rw [lnm_len]; exact Nat.le_of_ble_eq_true rfl) (by have := S.out.o; omega) (by have := S.out.p; omega) K.out).mono ?_
  rintro e w4 hp
  obtain ⟨rfl, k1, b1, z1⟩ := hp
  have K := hid k1; have BB := hid (BB.out.trans b1); have S := hid (S.out.at_ (lnm [116, 97, 107, 101, 115] j))
  clear k1 b1 z1
  go_wp2_with fail
  refine (asm_word B g (aat (lnm [116, 97, 107, 101, 115] j) (aif 11 [115, 97, 109, 101] (lnm [110, 101, 120, 116] j) (ado 8 [115, 97, 109, 101] [106] [109, 101] (aset [106] (j : Int) a)))) 13 [111, 116, 104, 101, 114] [106] 0 w4 (Nat.le_trans hB BB.out.size) (Nat.le_of_ble_eq_true rfl) (Nat.le_of_ble_eq_true rfl) (by have := S.out.r; omega) (by have := S.out.o; omega) K.out).mono ?_
  rintro e w5 hp
  obtain ⟨rfl, k1, b1, z1⟩ := hp
  have K := hid k1; have BB := hid (BB.out.trans b1); have S := hid (S.out.word_ 13 [111, 116, 104, 101, 114] [106] 0)
  clear k1 b1 z1
  go_wp2_with fail
  (try rw [lnm_less]); (try rw [lnm_next]); (try rw [lnm_takes]); (try rw [lnm_has]); refine (asm_if B g (aword 13 [111, 116, 104, 101, 114] [106] 0 (aat (lnm [116, 97, 107, 101, 115] j) (aif 11 [115, 97, 109, 101] (lnm [110, 101, 120, 116] j) (ado 8 [115, 97, 109, 101] [106] [109, 101] (aset [106] (j : Int) a))))) 11 [111, 116, 104, 101, 114] (lnm [116, 97, 107, 101, 115] j) w5 (Nat.le_trans hB BB.out.size) (Nat.le_of_ble_eq_true rfl) (by have := S.out.r; omega) (by have := S.out.o; omega) (by have := S.out.g; omega) K.out).mono ?_
  rintro e w6 hp
  obtain ⟨rfl, k1, b1, z1⟩ := hp
  have K := hid k1; have BB := hid (BB.out.trans b1); have S := hid (S.out.if_ 11 [111, 116, 104, 101, 114] (lnm [116, 97, 107, 101, 115] j))
  clear k1 b1 z1
  go_wp2_with fail
  (try rw [lnm_less]); (try rw [lnm_next]); (try rw [lnm_takes]); (try rw [lnm_has]); refine (asm_at B g (aif 11 [111, 116, 104, 101, 114] (lnm [116, 97, 107, 101, 115] j) (aword 13 [111, 116, 104, 101, 114] [106] 0 (aat (lnm [116, 97, 107, 101, 115] j) (aif 11 [115, 97, 109, 101] (lnm [110, 101, 120, 116] j) (ado 8 [115, 97, 109, 101] [106] [109, 101] (aset [106] (j : Int) a)))))) (lnm [104, 97, 115] j) w6 (Nat.le_trans hB BB.out.size) (by rw [lnm_len]; exact Nat.le_of_ble_eq_true rfl) (by have := S.out.o; omega) (by have := S.out.p; omega) K.out).mono ?_
  rintro e w7 hp
  obtain ⟨rfl, k1, b1, z1⟩ := hp
  have K := hid k1; have BB := hid (BB.out.trans b1); have S := hid (S.out.at_ (lnm [104, 97, 115] j))
  clear k1 b1 z1
  go_wp2_with fail
  refine (asm_word B g (aat (lnm [104, 97, 115] j) (aif 11 [111, 116, 104, 101, 114] (lnm [116, 97, 107, 101, 115] j) (aword 13 [111, 116, 104, 101, 114] [106] 0 (aat (lnm [116, 97, 107, 101, 115] j) (aif 11 [115, 97, 109, 101] (lnm [110, 101, 120, 116] j) (ado 8 [115, 97, 109, 101] [106] [109, 101] (aset [106] (j : Int) a))))))) 13 [111, 116, 104, 101, 114] [106] (n : Int) w7 (Nat.le_trans hB BB.out.size) (Nat.le_of_ble_eq_true rfl) (Nat.le_of_ble_eq_true rfl) (by have := S.out.r; omega) (by have := S.out.o; omega) K.out).mono ?_
  rintro e w8 hp
  obtain ⟨rfl, k1, b1, z1⟩ := hp
  have K := hid k1; have BB := hid (BB.out.trans b1); have S := hid (S.out.word_ 13 [111, 116, 104, 101, 114] [106] (n : Int))
  clear k1 b1 z1
  go_wp2_with fail
  (try rw [lnm_less]); (try rw [lnm_next]); (try rw [lnm_takes]); (try rw [lnm_has]); refine (asm_if B g (aword 13 [111, 116, 104, 101, 114] [106] (n : Int) (aat (lnm [104, 97, 115] j) (aif 11 [111, 116, 104, 101, 114] (lnm [116, 97, 107, 101, 115] j) (aword 13 [111, 116, 104, 101, 114] [106] 0 (aat (lnm [116, 97, 107, 101, 115] j) (aif 11 [115, 97, 109, 101] (lnm [110, 101, 120, 116] j) (ado 8 [115, 97, 109, 101] [106] [109, 101] (aset [106] (j : Int) a)))))))) 12 [111, 116, 104, 101, 114] (lnm [110, 101, 120, 116] j) w8 (Nat.le_trans hB BB.out.size) (Nat.le_of_ble_eq_true rfl) (by have := S.out.r; omega) (by have := S.out.o; omega) (by have := S.out.g; omega) K.out).mono ?_
  rintro e w9 hp
  obtain ⟨rfl, k1, b1, z1⟩ := hp
  have K := hid k1; have BB := hid (BB.out.trans b1); have S := hid (S.out.if_ 12 [111, 116, 104, 101, 114] (lnm [110, 101, 120, 116] j))
  clear k1 b1 z1
  go_wp2_with fail
  refine (asm_do B g (aif 12 [111, 116, 104, 101, 114] (lnm [110, 101, 120, 116] j) (aword 13 [111, 116, 104, 101, 114] [106] (n : Int) (aat (lnm [104, 97, 115] j) (aif 11 [111, 116, 104, 101, 114] (lnm [116, 97, 107, 101, 115] j) (aword 13 [111, 116, 104, 101, 114] [106] 0 (aat (lnm [116, 97, 107, 101, 115] j) (aif 11 [115, 97, 109, 101] (lnm [110, 101, 120, 116] j) (ado 8 [115, 97, 109, 101] [106] [109, 101] (aset [106] (j : Int) a))))))))) 9 [108, 101, 115, 115] [109, 105, 110, 101] [111, 116, 104, 101, 114] w9 (Nat.le_trans hB BB.out.size) (Nat.le_of_ble_eq_true rfl) (Nat.le_of_ble_eq_true rfl) (Nat.le_of_ble_eq_true rfl) (by have := S.out.r; omega) (by have := S.out.o; omega) K.out).mono ?_
  rintro e w10 hp
  obtain ⟨rfl, k1, b1, z1⟩ := hp
  have K := hid k1; have BB := hid (BB.out.trans b1); have S := hid (S.out.do_ 9 [108, 101, 115, 115] [109, 105, 110, 101] [111, 116, 104, 101, 114])
  clear k1 b1 z1
  go_wp2_with fail
  (try rw [lnm_less]); (try rw [lnm_next]); (try rw [lnm_takes]); (try rw [lnm_has]); refine (asm_if B g (ado 9 [108, 101, 115, 115] [109, 105, 110, 101] [111, 116, 104, 101, 114] (aif 12 [111, 116, 104, 101, 114] (lnm [110, 101, 120, 116] j) (aword 13 [111, 116, 104, 101, 114] [106] (n : Int) (aat (lnm [104, 97, 115] j) (aif 11 [111, 116, 104, 101, 114] (lnm [116, 97, 107, 101, 115] j) (aword 13 [111, 116, 104, 101, 114] [106] 0 (aat (lnm [116, 97, 107, 101, 115] j) (aif 11 [115, 97, 109, 101] (lnm [110, 101, 120, 116] j) (ado 8 [115, 97, 109, 101] [106] [109, 101] (aset [106] (j : Int) a)))))))))) 11 [108, 101, 115, 115] (lnm [110, 101, 120, 116] j) w10 (Nat.le_trans hB BB.out.size) (Nat.le_of_ble_eq_true rfl) (by have := S.out.r; omega) (by have := S.out.o; omega) (by have := S.out.g; omega) K.out).mono ?_
  rintro e w11 hp
  obtain ⟨rfl, k1, b1, z1⟩ := hp
  have K := hid k1; have BB := hid (BB.out.trans b1); have S := hid (S.out.if_ 11 [108, 101, 115, 115] (lnm [110, 101, 120, 116] j))
  clear k1 b1 z1
  go_wp2_with fail
  refine (asm_do B g (aif 11 [108, 101, 115, 115] (lnm [110, 101, 120, 116] j) (ado 9 [108, 101, 115, 115] [109, 105, 110, 101] [111, 116, 104, 101, 114] (aif 12 [111, 116, 104, 101, 114] (lnm [110, 101, 120, 116] j) (aword 13 [111, 116, 104, 101, 114] [106] (n : Int) (aat (lnm [104, 97, 115] j) (aif 11 [111, 116, 104, 101, 114] (lnm [116, 97, 107, 101, 115] j) (aword 13 [111, 116, 104, 101, 114] [106] 0 (aat (lnm [116, 97, 107, 101, 115] j) (aif 11 [115, 97, 109, 101] (lnm [110, 101, 120, 116] j) (ado 8 [115, 97, 109, 101] [106] [109, 101] (aset [106] (j : Int) a))))))))))) 8 [115, 97, 109, 101] [109, 105, 110, 101] [111, 116, 104, 101, 114] w11 (Nat.le_trans hB BB.out.size) (Nat.le_of_ble_eq_true rfl) (Nat.le_of_ble_eq_true rfl) (Nat.le_of_ble_eq_true rfl) (by have := S.out.r; omega) (by have := S.out.o; omega) K.out).mono ?_
  rintro e w12 hp
  obtain ⟨rfl, k1, b1, z1⟩ := hp
  have K := hid k1; have BB := hid (BB.out.trans b1); have S := hid (S.out.do_ 8 [115, 97, 109, 101] [109, 105, 110, 101] [111, 116, 104, 101, 114])
  clear k1 b1 z1
  go_wp2_with fail
  (try rw [lnm_less]); (try rw [lnm_next]); (try rw [lnm_takes]); (try rw [lnm_has]); refine (asm_if B g (ado 8 [115, 97, 109, 101] [109, 105, 110, 101] [111, 116, 104, 101, 114] (aif 11 [108, 101, 115, 115] (lnm [110, 101, 120, 116] j) (ado 9 [108, 101, 115, 115] [109, 105, 110, 101] [111, 116, 104, 101, 114] (aif 12 [111, 116, 104, 101, 114] (lnm [110, 101, 120, 116] j) (aword 13 [111, 116, 104, 101, 114] [106] (n : Int) (aat (lnm [104, 97, 115] j) (aif 11 [111, 116, 104, 101, 114] (lnm [116, 97, 107, 101, 115] j) (aword 13 [111, 116, 104, 101, 114] [106] 0 (aat (lnm [116, 97, 107, 101, 115] j) (aif 11 [115, 97, 109, 101] (lnm [110, 101, 120, 116] j) (ado 8 [115, 97, 109, 101] [106] [109, 101] (aset [106] (j : Int) a)))))))))))) 12 [115, 97, 109, 101] (lnm [104, 97, 115] j) w12 (Nat.le_trans hB BB.out.size) (Nat.le_of_ble_eq_true rfl) (by have := S.out.r; omega) (by have := S.out.o; omega) (by have := S.out.g; omega) K.out).mono ?_
  rintro e w13 hp
  obtain ⟨rfl, k1, b1, z1⟩ := hp
  have K := hid k1; have BB := hid (BB.out.trans b1); have S := hid (S.out.if_ 12 [115, 97, 109, 101] (lnm [104, 97, 115] j))
  clear k1 b1 z1
  go_wp2_with fail
  refine (asm_do B g (aif 12 [115, 97, 109, 101] (lnm [104, 97, 115] j) (ado 8 [115, 97, 109, 101] [109, 105, 110, 101] [111, 116, 104, 101, 114] (aif 11 [108, 101, 115, 115] (lnm [110, 101, 120, 116] j) (ado 9 [108, 101, 115, 115] [109, 105, 110, 101] [111, 116, 104, 101, 114] (aif 12 [111, 116, 104, 101, 114] (lnm [110, 101, 120, 116] j) (aword 13 [111, 116, 104, 101, 114] [106] (n : Int) (aat (lnm [104, 97, 115] j) (aif 11 [111, 116, 104, 101, 114] (lnm [116, 97, 107, 101, 115] j) (aword 13 [111, 116, 104, 101, 114] [106] 0 (aat (lnm [116, 97, 107, 101, 115] j) (aif 11 [115, 97, 109, 101] (lnm [110, 101, 120, 116] j) (ado 8 [115, 97, 109, 101] [106] [109, 101] (aset [106] (j : Int) a))))))))))))) 9 [108, 101, 115, 115] [106] [109, 101] w13 (Nat.le_trans hB BB.out.size) (Nat.le_of_ble_eq_true rfl) (Nat.le_of_ble_eq_true rfl) (Nat.le_of_ble_eq_true rfl) (by have := S.out.r; omega) (by have := S.out.o; omega) K.out).mono ?_
  rintro e w14 hp
  obtain ⟨rfl, k1, b1, z1⟩ := hp
  have K := hid k1; have BB := hid (BB.out.trans b1); have S := hid (S.out.do_ 9 [108, 101, 115, 115] [106] [109, 101])
  clear k1 b1 z1
  go_wp2_with fail
  (try rw [lnm_less]); (try rw [lnm_next]); (try rw [lnm_takes]); (try rw [lnm_has]); refine (asm_if B g (ado 9 [108, 101, 115, 115] [106] [109, 101] (aif 12 [115, 97, 109, 101] (lnm [104, 97, 115] j) (ado 8 [115, 97, 109, 101] [109, 105, 110, 101] [111, 116, 104, 101, 114] (aif 11 [108, 101, 115, 115] (lnm [110, 101, 120, 116] j) (ado 9 [108, 101, 115, 115] [109, 105, 110, 101] [111, 116, 104, 101, 114] (aif 12 [111, 116, 104, 101, 114] (lnm [110, 101, 120, 116] j) (aword 13 [111, 116, 104, 101, 114] [106] (n : Int) (aat (lnm [104, 97, 115] j) (aif 11 [111, 116, 104, 101, 114] (lnm [116, 97, 107, 101, 115] j) (aword 13 [111, 116, 104, 101, 114] [106] 0 (aat (lnm [116, 97, 107, 101, 115] j) (aif 11 [115, 97, 109, 101] (lnm [110, 101, 120, 116] j) (ado 8 [115, 97, 109, 101] [106] [109, 101] (aset [106] (j : Int) a)))))))))))))) 11 [108, 101, 115, 115] (lnm [104, 97, 115] j) w14 (Nat.le_trans hB BB.out.size) (Nat.le_of_ble_eq_true rfl) (by have := S.out.r; omega) (by have := S.out.o; omega) (by have := S.out.g; omega) K.out).mono ?_
  rintro e w15 hp
  obtain ⟨rfl, k1, b1, z1⟩ := hp
  have K := hid k1; have BB := hid (BB.out.trans b1); have S := hid (S.out.if_ 11 [108, 101, 115, 115] (lnm [104, 97, 115] j))
  clear k1 b1 z1
  go_wp2_with fail
  (try rw [lnm_less]); (try rw [lnm_next]); (try rw [lnm_takes]); (try rw [lnm_has]); refine (asm_at B g (aif 11 [108, 101, 115, 115] (lnm [104, 97, 115] j) (ado 9 [108, 101, 115, 115] [106] [109, 101] (aif 12 [115, 97, 109, 101] (lnm [104, 97, 115] j) (ado 8 [115, 97, 109, 101] [109, 105, 110, 101] [111, 116, 104, 101, 114] (aif 11 [108, 101, 115, 115] (lnm [110, 101, 120, 116] j) (ado 9 [108, 101, 115, 115] [109, 105, 110, 101] [111, 116, 104, 101, 114] (aif 12 [111, 116, 104, 101, 114] (lnm [110, 101, 120, 116] j) (aword 13 [111, 116, 104, 101, 114] [106] (n : Int) (aat (lnm [104, 97, 115] j) (aif 11 [111, 116, 104, 101, 114] (lnm [116, 97, 107, 101, 115] j) (aword 13 [111, 116, 104, 101, 114] [106] 0 (aat (lnm [116, 97, 107, 101, 115] j) (aif 11 [115, 97, 109, 101] (lnm [110, 101, 120, 116] j) (ado 8 [115, 97, 109, 101] [106] [109, 101] (aset [106] (j : Int) a))))))))))))))) (lnm [110, 101, 120, 116] j) w15 (Nat.le_trans hB BB.out.size) (by rw [lnm_len]; exact Nat.le_of_ble_eq_true rfl) (by have := S.out.o; omega) (by have := S.out.p; omega) K.out).mono ?_
  rintro e w16 hp
  obtain ⟨rfl, k1, b1, z1⟩ := hp
  have K := hid k1; have BB := hid (BB.out.trans b1); have S := hid (S.out.at_ (lnm [110, 101, 120, 116] j))
  clear k1 b1 z1
  go_wp2
  go_end0
  exact ⟨rfl, K.out, BB.out⟩
/-- the first loop -/
def lkA (n : Nat) : Nat → AC
  | 0 => (aword 14 [111, 110, 101] [109, 101] 0 (aset [111, 110, 101] 1 (aregs [[109, 101]] anew)))
  | j + 1 => (aat (lnm [108, 101, 115, 115] j) (acopy [109, 105, 110, 101] [111, 116, 104, 101, 114] (aif 12 [109, 111, 114, 101] (lnm [108, 101, 115, 115] j) (ado 9 [109, 111, 114, 101] [109, 105, 110, 101] [111, 116, 104, 101, 114] (aword 13 [111, 116, 104, 101, 114] [122, 101, 114, 111] ((n : Int) + (j : Int)) (lkA n j))))))
/-- behind it -/
def lkM (n : Nat) : AC := (aword 14 [122, 101, 114, 111] [109, 101] 0 (aword 14 [109, 105, 110, 101] [109, 101] (n : Int) (ado 3 [109, 105, 110, 101] [109, 105, 110, 101] [111, 110, 101] (lkA n n))))
/-- the second loop -/
def lkB (n : Nat) : Nat → AC
  | 0 => lkM n
  | j + 1 => lwait n j (lkB n j)
theorem lkA_sz (n : Nat) : ∀ j, Sz (lkA n j) (10 + 10 * j) (2 + 4 * j) j j
  | 0 => ⟨Nat.le_of_ble_eq_true (by kernel_rfl), Nat.le_of_ble_eq_true (by kernel_rfl), Nat.le_of_ble_eq_true (by kernel_rfl), Nat.le_of_ble_eq_true (by kernel_rfl)⟩
  | j + 1 => by
    have ih := lkA_sz n j
    exact ⟨Nat.le_trans (((((ih.word_ _ _ _ _).do_ _ _ _ _).if_ _ _ _).copy_ _ _).at_ _).r (by omega), Nat.le_trans (((((ih.word_ _ _ _ _).do_ _ _ _ _).if_ _ _ _).copy_ _ _).at_ _).o (by omega), Nat.le_trans (((((ih.word_ _ _ _ _).do_ _ _ _ _).if_ _ _ _).copy_ _ _).at_ _).g (by omega), Nat.le_trans (((((ih.word_ _ _ _ _).do_ _ _ _ _).if_ _ _ _).copy_ _ _).at_ _).p (by omega)⟩
theorem lkM_sz {n : Nat} (h : n ≤ 4) : Sz (lkM n) 60 30 4 4 :=
  ⟨Nat.le_trans ((((lkA_sz n n).do_ _ _ _ _).word_ _ _ _ _).word_ _ _ _ _).r (by omega), Nat.le_trans ((((lkA_sz n n).do_ _ _ _ _).word_ _ _ _ _).word_ _ _ _ _).o (by omega), Nat.le_trans ((((lkA_sz n n).do_ _ _ _ _).word_ _ _ _ _).word_ _ _ _ _).g (by omega), Nat.le_trans ((((lkA_sz n n).do_ _ _ _ _).word_ _ _ _ _).word_ _ _ _ _).p (by omega)⟩
theorem lkB_sz {n : Nat} (h : n ≤ 4) : ∀ j, Sz (lkB n j) (60 + 25 * j) (30 + 13 * j) (4 + 6 * j) (4 + 3 * j)
  | 0 => lkM_sz h
  | j + 1 => lwait_sz (lkB_sz h j) n j
def lenterCode : Nat → List Op5
  | 1 => [⟨1, 1, 1, 0, 0⟩, ⟨14, 1, 0, 0, 0⟩, ⟨13, 2, 3, 1, 0⟩, ⟨9, 4, 5, 2, 0⟩, ⟨12, 4, 6, 0, 0⟩, ⟨2, 5, 2, 0, 0⟩, ⟨3, 5, 5, 1, 0⟩, ⟨14, 5, 0, 1, 0⟩, ⟨14, 3, 0, 0, 0⟩, ⟨1, 6, 0, 0, 0⟩, ⟨8, 7, 6, 0, 0⟩, ⟨11, 7, 22, 0, 0⟩, ⟨13, 2, 6, 0, 0⟩, ⟨11, 2, 12, 0, 0⟩, ⟨13, 2, 6, 1, 0⟩, ⟨12, 2, 22, 0, 0⟩, ⟨9, 8, 5, 2, 0⟩, ⟨11, 8, 22, 0, 0⟩, ⟨8, 7, 5, 2, 0⟩, ⟨12, 7, 14, 0, 0⟩, ⟨9, 8, 6, 0, 0⟩, ⟨11, 8, 14, 0, 0⟩]
  | 2 => [⟨1, 1, 1, 0, 0⟩, ⟨14, 1, 0, 0, 0⟩, ⟨13, 2, 3, 2, 0⟩, ⟨9, 4, 5, 2, 0⟩, ⟨12, 4, 6, 0, 0⟩, ⟨2, 5, 2, 0, 0⟩, ⟨13, 2, 3, 3, 0⟩, ⟨9, 4, 5, 2, 0⟩, ⟨12, 4, 10, 0, 0⟩, ⟨2, 5, 2, 0, 0⟩, ⟨3, 5, 5, 1, 0⟩, ⟨14, 5, 0, 2, 0⟩, ⟨14, 3, 0, 0, 0⟩, ⟨1, 6, 0, 0, 0⟩, ⟨8, 7, 6, 0, 0⟩, ⟨11, 7, 26, 0, 0⟩, ⟨13, 2, 6, 0, 0⟩, ⟨11, 2, 16, 0, 0⟩, ⟨13, 2, 6, 2, 0⟩, ⟨12, 2, 26, 0, 0⟩, ⟨9, 8, 5, 2, 0⟩, ⟨11, 8, 26, 0, 0⟩, ⟨8, 7, 5, 2, 0⟩, ⟨12, 7, 18, 0, 0⟩, ⟨9, 8, 6, 0, 0⟩, ⟨11, 8, 18, 0, 0⟩, ⟨1, 6, 1, 0, 0⟩, ⟨8, 7, 6, 0, 0⟩, ⟨11, 7, 39, 0, 0⟩, ⟨13, 2, 6, 0, 0⟩, ⟨11, 2, 29, 0, 0⟩, ⟨13, 2, 6, 2, 0⟩, ⟨12, 2, 39, 0, 0⟩, ⟨9, 8, 5, 2, 0⟩, ⟨11, 8, 39, 0, 0⟩, ⟨8, 7, 5, 2, 0⟩, ⟨12, 7, 31, 0, 0⟩, ⟨9, 8, 6, 0, 0⟩, ⟨11, 8, 31, 0, 0⟩]
  | 3 => [⟨1, 1, 1, 0, 0⟩, ⟨14, 1, 0, 0, 0⟩, ⟨13, 2, 3, 3, 0⟩, ⟨9, 4, 5, 2, 0⟩, ⟨12, 4, 6, 0, 0⟩, ⟨2, 5, 2, 0, 0⟩, ⟨13, 2, 3, 4, 0⟩, ⟨9, 4, 5, 2, 0⟩, ⟨12, 4, 10, 0, 0⟩, ⟨2, 5, 2, 0, 0⟩, ⟨13, 2, 3, 5, 0⟩, ⟨9, 4, 5, 2, 0⟩, ⟨12, 4, 14, 0, 0⟩, ⟨2, 5, 2, 0, 0⟩, ⟨3, 5, 5, 1, 0⟩, ⟨14, 5, 0, 3, 0⟩, ⟨14, 3, 0, 0, 0⟩, ⟨1, 6, 0, 0, 0⟩, ⟨8, 7, 6, 0, 0⟩, ⟨11, 7, 30, 0, 0⟩, ⟨13, 2, 6, 0, 0⟩, ⟨11, 2, 20, 0, 0⟩, ⟨13, 2, 6, 3, 0⟩, ⟨12, 2, 30, 0, 0⟩, ⟨9, 8, 5, 2, 0⟩, ⟨11, 8, 30, 0, 0⟩, ⟨8, 7, 5, 2, 0⟩, ⟨12, 7, 22, 0, 0⟩, ⟨9, 8, 6, 0, 0⟩, ⟨11, 8, 22, 0, 0⟩, ⟨1, 6, 1, 0, 0⟩, ⟨8, 7, 6, 0, 0⟩, ⟨11, 7, 43, 0, 0⟩, ⟨13, 2, 6, 0, 0⟩, ⟨11, 2, 33, 0, 0⟩, ⟨13, 2, 6, 3, 0⟩, ⟨12, 2, 43, 0, 0⟩, ⟨9, 8, 5, 2, 0⟩, ⟨11, 8, 43, 0, 0⟩, ⟨8, 7, 5, 2, 0⟩, ⟨12, 7, 35, 0, 0⟩, ⟨9, 8, 6, 0, 0⟩, ⟨11, 8, 35, 0, 0⟩, ⟨1, 6, 2, 0, 0⟩, ⟨8, 7, 6, 0, 0⟩, ⟨11, 7, 56, 0, 0⟩, ⟨13, 2, 6, 0, 0⟩, ⟨11, 2, 46, 0, 0⟩, ⟨13, 2, 6, 3, 0⟩, ⟨12, 2, 56, 0, 0⟩, ⟨9, 8, 5, 2, 0⟩, ⟨11, 8, 56, 0, 0⟩, ⟨8, 7, 5, 2, 0⟩, ⟨12, 7, 48, 0, 0⟩, ⟨9, 8, 6, 0, 0⟩, ⟨11, 8, 48, 0, 0⟩]
  | 4 => [⟨1, 1, 1, 0, 0⟩, ⟨14, 1, 0, 0, 0⟩, ⟨13, 2, 3, 4, 0⟩, ⟨9, 4, 5, 2, 0⟩, ⟨12, 4, 6, 0, 0⟩, ⟨2, 5, 2, 0, 0⟩, ⟨13, 2, 3, 5, 0⟩, ⟨9, 4, 5, 2, 0⟩, ⟨12, 4, 10, 0, 0⟩, ⟨2, 5, 2, 0, 0⟩, ⟨13, 2, 3, 6, 0⟩, ⟨9, 4, 5, 2, 0⟩, ⟨12, 4, 14, 0, 0⟩, ⟨2, 5, 2, 0, 0⟩, ⟨13, 2, 3, 7, 0⟩, ⟨9, 4, 5, 2, 0⟩, ⟨12, 4, 18, 0, 0⟩, ⟨2, 5, 2, 0, 0⟩, ⟨3, 5, 5, 1, 0⟩, ⟨14, 5, 0, 4, 0⟩, ⟨14, 3, 0, 0, 0⟩, ⟨1, 6, 0, 0, 0⟩, ⟨8, 7, 6, 0, 0⟩, ⟨11, 7, 34, 0, 0⟩, ⟨13, 2, 6, 0, 0⟩, ⟨11, 2, 24, 0, 0⟩, ⟨13, 2, 6, 4, 0⟩, ⟨12, 2, 34, 0, 0⟩, ⟨9, 8, 5, 2, 0⟩, ⟨11, 8, 34, 0, 0⟩, ⟨8, 7, 5, 2, 0⟩, ⟨12, 7, 26, 0, 0⟩, ⟨9, 8, 6, 0, 0⟩, ⟨11, 8, 26, 0, 0⟩, ⟨1, 6, 1, 0, 0⟩, ⟨8, 7, 6, 0, 0⟩, ⟨11, 7, 47, 0, 0⟩, ⟨13, 2, 6, 0, 0⟩, ⟨11, 2, 37, 0, 0⟩, ⟨13, 2, 6, 4, 0⟩, ⟨12, 2, 47, 0, 0⟩, ⟨9, 8, 5, 2, 0⟩, ⟨11, 8, 47, 0, 0⟩, ⟨8, 7, 5, 2, 0⟩, ⟨12, 7, 39, 0, 0⟩, ⟨9, 8, 6, 0, 0⟩, ⟨11, 8, 39, 0, 0⟩, ⟨1, 6, 2, 0, 0⟩, ⟨8, 7, 6, 0, 0⟩, ⟨11, 7, 60, 0, 0⟩, ⟨13, 2, 6, 0, 0⟩, ⟨11, 2, 50, 0, 0⟩, ⟨13, 2, 6, 4, 0⟩, ⟨12, 2, 60, 0, 0⟩, ⟨9, 8, 5, 2, 0⟩, ⟨11, 8, 60, 0, 0⟩, ⟨8, 7, 5, 2, 0⟩, ⟨12, 7, 52, 0, 0⟩, ⟨9, 8, 6, 0, 0⟩, ⟨11, 8, 52, 0, 0⟩, ⟨1, 6, 3, 0, 0⟩, ⟨8, 7, 6, 0, 0⟩, ⟨11, 7, 73, 0, 0⟩, ⟨13, 2, 6, 0, 0⟩, ⟨11, 2, 63, 0, 0⟩, ⟨13, 2, 6, 4, 0⟩, ⟨12, 2, 73, 0, 0⟩, ⟨9, 8, 5, 2, 0⟩, ⟨11, 8, 73, 0, 0⟩, ⟨8, 7, 5, 2, 0⟩, ⟨12, 7, 65, 0, 0⟩, ⟨9, 8, 6, 0, 0⟩, ⟨11, 8, 65, 0, 0⟩]
  | _ => []
def lleaveCode (n : Nat) : List Op5 := [⟨14, 1, 0, (n : Int), 0⟩]
theorem lenter_ops {n : Nat} (h1 : 1 ≤ n) (h4 : n ≤ 4) : aops (lkB n n) = lenterCode n := by
  rcases (show n = 1 ∨ n = 2 ∨ n = 3 ∨ n = 4 by omega) with rfl | rfl | rfl | rfl
  · kernel_rfl
  · kernel_rfl
  · kernel_rfl
  · kernel_rfl
theorem lenter_go {n : Nat} (h1 : 1 ≤ n) (h4 : n ≤ 4) : ((lkB n n).gotos.all fun x => Nat.blt x.1 (lkB n n).ops.length && Nat.ble x.2.length 100) = true := by
  rcases (show n = 1 ∨ n = 2 ∨ n = 3 ∨ n = 4 by omega) with rfl | rfl | rfl | rfl
  · kernel_rfl
  · kernel_rfl
  · kernel_rfl
  · kernel_rfl
theorem lock_may (N : Nat) (w : World) (h1 : 1 ≤ N) (h8 : N ≤ 4) : Calls Tryd.prog 43 #[.int .i64 (N : Int)] w fun e w' => e = .returned (.bool true) ∧ w = w' := by
  have i1 : (1 : Int) ≤ (N : Int) := by omega
  have i8 : (N : Int) ≤ 4 := by omega
  go_enter Tryd.func43, Tryd.ntmps43
  go_wp2
  go_ret
  exact ⟨rfl, rfl⟩

set_option maxHeartbeats 2000000 in
theorem lock_enter (n : Nat) (w : World) (h1 : 1 ≤ n) (h4 : n ≤ 4) : Calls Tryd.prog 25 #[.int .i64 (n : Int)] w fun e w' => CodePost2 w (lenterCode n) e w' := by
  go_enter Tryd.func25, Tryd.ntmps25
  go_wp2_with fail
  refine (lock_may n w h1 h4).mono ?_
  rintro e w' ⟨rfl, rfl⟩
  go_wp2_with fail
  refine (asm_new w.heap.size [[109, 101]] (some ⟨w.heap.size, 0, none⟩) 1 1 (w.alloc (.cells #[.string ⟨#[109, 101]⟩] 9)) (bnew (bnil w) _).size (by decide) rfl (by decide) (.inr ⟨_, rfl, Blk.new w _ _⟩)).mono ?_
  rintro e w1 hp
  obtain ⟨g, rfl, k1, b1, z1⟩ := hp
  have K := hid k1; have BB := hid ((bnew (bnil w) (.cells #[.string ⟨#[109, 101]⟩] 9)).trans b1)
  obtain ⟨B, hBw⟩ : ∃ B, w.heap.size = B := ⟨_, rfl⟩
  have hB : B ≤ w.heap.size := by omega
  have HBW := hid hBw
  rw [hBw] at K BB
  clear k1 b1 z1 hBw
  have S := hid (show Sz (aregs [[109, 101]] anew) 5 5 5 5 from ⟨Nat.le_of_ble_eq_true (by kernel_rfl), Nat.le_of_ble_eq_true (by kernel_rfl), Nat.le_of_ble_eq_true (by kernel_rfl), Nat.le_of_ble_eq_true (by kernel_rfl)⟩)
  go_wp2_with fail
  refine (asm_set B g (aregs [[109, 101]] anew) [111, 110, 101] 1 w1 (Nat.le_trans hB BB.out.size) (Nat.le_of_ble_eq_true rfl) (by have := S.out.r; omega) (by have := S.out.o; omega) K.out).mono ?_
  rintro e w2 hp
  obtain ⟨rfl, k1, b1, z1⟩ := hp
  have K := hid k1; have BB := hid (BB.out.trans b1); have S := hid (S.out.set_ [111, 110, 101] 1)
  clear k1 b1 z1
  go_wp2_with fail
  refine (asm_word B g (aset [111, 110, 101] 1 (aregs [[109, 101]] anew)) 14 [111, 110, 101] [109, 101] 0 w2 (Nat.le_trans hB BB.out.size) (Nat.le_of_ble_eq_true rfl) (Nat.le_of_ble_eq_true rfl) (by have := S.out.r; omega) (by have := S.out.o; omega) K.out).mono ?_
  rintro e w3 hp
  obtain ⟨rfl, k1, b1, z1⟩ := hp
  have K := hid k1; have BB := hid (BB.out.trans b1); have S := hid (S.out.word_ 14 [111, 110, 101] [109, 101] 0)
  clear k1 b1 z1
  go_wp2_with fail
  go_loopw [16] (fun v wr => ∃ j : Nat, j ≤ n ∧ v = .int .i64 j ∧ Hid (ACat B wr g (lkA n j)) ∧ Hid (Below B w wr)) (fun v _ => n - (intOf v).toNat)
  case atStart => exact ⟨0, Nat.zero_le _, rfl, K, BB⟩
  case round =>
    clear K S BB
    obtain ⟨j, hj, rfl, K, BB⟩ := hrel
    by_cases hlt : j < n
    · have i1 : (j : Int) < (n : Int) := by omega
      have S := hid (show Sz (lkA n j) 50 50 50 50 from ⟨Nat.le_trans (lkA_sz n j).r (by omega), Nat.le_trans (lkA_sz n j).o (by omega), Nat.le_trans (lkA_sz n j).g (by omega), Nat.le_trans (lkA_sz n j).p (by omega)⟩)
      go_wp2_with fail
      refine (itoa_of j _ (by omega)).mono ?_
      rintro e w' ⟨rfl, rfl⟩
      go_wp2_with fail
      refine (asm_word B g (lkA n j) 13 [111, 116, 104, 101, 114] [122, 101, 114, 111] ((n : Int) + (j : Int)) wr (Nat.le_trans hB BB.out.size) (Nat.le_of_ble_eq_true rfl) (Nat.le_of_ble_eq_true rfl) (by have := S.out.r; omega) (by have := S.out.o; omega) K.out).mono ?_
      rintro e v1 hp
      obtain ⟨rfl, k1, b1, z1⟩ := hp
      have K := hid k1; have BB := hid (BB.out.trans b1); have S := hid (S.out.word_ 13 [111, 116, 104, 101, 114] [122, 101, 114, 111] ((n : Int) + (j : Int)))
      clear k1 b1 z1
      go_wp2_with fail
      refine (asm_do B g (aword 13 [111, 116, 104, 101, 114] [122, 101, 114, 111] ((n : Int) + (j : Int)) (lkA n j)) 9 [109, 111, 114, 101] [109, 105, 110, 101] [111, 116, 104, 101, 114] v1 (Nat.le_trans hB BB.out.size) (Nat.le_of_ble_eq_true rfl) (Nat.le_of_ble_eq_true rfl) (Nat.le_of_ble_eq_true rfl) (by have := S.out.r; omega) (by have := S.out.o; omega) K.out).mono ?_
      rintro e v2 hp
      obtain ⟨rfl, k1, b1, z1⟩ := hp
      have K := hid k1; have BB := hid (BB.out.trans b1); have S := hid (S.out.do_ 9 [109, 111, 114, 101] [109, 105, 110, 101] [111, 116, 104, 101, 114])
      clear k1 b1 z1
      go_wp2_with fail
      (try rw [lnm_less]); refine (asm_if B g (ado 9 [109, 111, 114, 101] [109, 105, 110, 101] [111, 116, 104, 101, 114] (aword 13 [111, 116, 104, 101, 114] [122, 101, 114, 111] ((n : Int) + (j : Int)) (lkA n j))) 12 [109, 111, 114, 101] (lnm [108, 101, 115, 115] j) v2 (Nat.le_trans hB BB.out.size) (Nat.le_of_ble_eq_true rfl) (by have := S.out.r; omega) (by have := S.out.o; omega) (by have := S.out.g; omega) K.out).mono ?_
      rintro e v3 hp
      obtain ⟨rfl, k1, b1, z1⟩ := hp
      have K := hid k1; have BB := hid (BB.out.trans b1); have S := hid (S.out.if_ 12 [109, 111, 114, 101] (lnm [108, 101, 115, 115] j))
      clear k1 b1 z1
      go_wp2_with fail
      refine (asm_copy B g (aif 12 [109, 111, 114, 101] (lnm [108, 101, 115, 115] j) (ado 9 [109, 111, 114, 101] [109, 105, 110, 101] [111, 116, 104, 101, 114] (aword 13 [111, 116, 104, 101, 114] [122, 101, 114, 111] ((n : Int) + (j : Int)) (lkA n j)))) [109, 105, 110, 101] [111, 116, 104, 101, 114] v3 (Nat.le_trans hB BB.out.size) (Nat.le_of_ble_eq_true rfl) (Nat.le_of_ble_eq_true rfl) (by have := S.out.r; omega) (by have := S.out.o; omega) K.out).mono ?_
      rintro e v4 hp
      obtain ⟨rfl, k1, b1, z1⟩ := hp
      have K := hid k1; have BB := hid (BB.out.trans b1); have S := hid (S.out.copy_ [109, 105, 110, 101] [111, 116, 104, 101, 114])
      clear k1 b1 z1
      go_wp2_with fail
      (try rw [lnm_less]); refine (asm_at B g (acopy [109, 105, 110, 101] [111, 116, 104, 101, 114] (aif 12 [109, 111, 114, 101] (lnm [108, 101, 115, 115] j) (ado 9 [109, 111, 114, 101] [109, 105, 110, 101] [111, 116, 104, 101, 114] (aword 13 [111, 116, 104, 101, 114] [122, 101, 114, 111] ((n : Int) + (j : Int)) (lkA n j))))) (lnm [108, 101, 115, 115] j) v4 (Nat.le_trans hB BB.out.size) (by rw [lnm_len]; exact Nat.le_of_ble_eq_true rfl) (by have := S.out.o; omega) (by have := S.out.p; omega) K.out).mono ?_
      rintro e v5 hp
      obtain ⟨rfl, k1, b1, z1⟩ := hp
      have K := hid k1; have BB := hid (BB.out.trans b1); have S := hid (S.out.at_ (lnm [108, 101, 115, 115] j))
      clear k1 b1 z1
      clear S
      go_wp2_with fail
      go_roundw
      case rel => exact ⟨j + 1, by omega, by go_num, K, BB⟩
      case measure => simp [intOf]; omega
    · obtain rfl : j = n := by omega
      have i1 : ¬ (j : Int) < (j : Int) := by omega
      have S := hid (show Sz (lkA j j) 50 50 50 50 from ⟨Nat.le_trans (lkA_sz j j).r (by omega), Nat.le_trans (lkA_sz j j).o (by omega), Nat.le_trans (lkA_sz j j).g (by omega), Nat.le_trans (lkA_sz j j).p (by omega)⟩)
      obtain ⟨n, hn⟩ : ∃ n, n = j := ⟨_, rfl⟩
      subst hn
      go_wp2_with fail
      refine (asm_do B g (lkA n n) 3 [109, 105, 110, 101] [109, 105, 110, 101] [111, 110, 101] wr (Nat.le_trans hB BB.out.size) (Nat.le_of_ble_eq_true rfl) (Nat.le_of_ble_eq_true rfl) (Nat.le_of_ble_eq_true rfl) (by have := S.out.r; omega) (by have := S.out.o; omega) K.out).mono ?_
      rintro e v1 hp
      obtain ⟨rfl, k1, b1, z1⟩ := hp
      have K := hid k1; have BB := hid (BB.out.trans b1); have S := hid (S.out.do_ 3 [109, 105, 110, 101] [109, 105, 110, 101] [111, 110, 101])
      clear k1 b1 z1
      go_wp2_with fail
      refine (asm_word B g (ado 3 [109, 105, 110, 101] [109, 105, 110, 101] [111, 110, 101] (lkA n n)) 14 [109, 105, 110, 101] [109, 101] (n : Int) v1 (Nat.le_trans hB BB.out.size) (Nat.le_of_ble_eq_true rfl) (Nat.le_of_ble_eq_true rfl) (by have := S.out.r; omega) (by have := S.out.o; omega) K.out).mono ?_
      rintro e v2 hp
      obtain ⟨rfl, k1, b1, z1⟩ := hp
      have K := hid k1; have BB := hid (BB.out.trans b1); have S := hid (S.out.word_ 14 [109, 105, 110, 101] [109, 101] (n : Int))
      clear k1 b1 z1
      go_wp2_with fail
      refine (asm_word B g (aword 14 [109, 105, 110, 101] [109, 101] (n : Int) (ado 3 [109, 105, 110, 101] [109, 105, 110, 101] [111, 110, 101] (lkA n n))) 14 [122, 101, 114, 111] [109, 101] 0 v2 (Nat.le_trans hB BB.out.size) (Nat.le_of_ble_eq_true rfl) (Nat.le_of_ble_eq_true rfl) (by have := S.out.r; omega) (by have := S.out.o; omega) K.out).mono ?_
      rintro e v3 hp
      obtain ⟨rfl, k1, b1, z1⟩ := hp
      have K := hid k1; have BB := hid (BB.out.trans b1); have S := hid (S.out.word_ 14 [122, 101, 114, 111] [109, 101] 0)
      clear k1 b1 z1
      clear S
      go_wp2_with fail
      go_loopw [41] (fun v wz => ∃ j : Nat, j ≤ n ∧ v = .int .i64 j ∧ Hid (ACat B wz g (lkB n j)) ∧ Hid (Below B w wz)) (fun v _ => n - (intOf v).toNat)
      case atStart => exact ⟨0, Nat.zero_le _, rfl, K, BB⟩
      case round =>
        clear K BB
        obtain ⟨j, hj, rfl, K, BB⟩ := hrel
        by_cases hlt : j < n
        · have i1 : (j : Int) < (n : Int) := by omega
          have S := hid (show Sz (lkB n j) 300 200 200 200 from ⟨Nat.le_trans (lkB_sz h4 j).r (by omega), Nat.le_trans (lkB_sz h4 j).o (by omega), Nat.le_trans (lkB_sz h4 j).g (by omega), Nat.le_trans (lkB_sz h4 j).p (by omega)⟩)
          go_wp2_with fail
          refine (lock_wait B g n j (lkB n j) wr (Nat.le_trans hB BB.out.size) h4 (by omega) S.out K.out).mono ?_
          rintro e u1 ⟨rfl, k1, b1⟩
          have K := hid k1; have BB := hid (BB.out.trans b1)
          clear k1 b1 S
          go_wp2_with fail
          go_roundw
          case rel => exact ⟨j + 1, by omega, by go_num, K, BB⟩
          case measure => simp [intOf]; omega
        · obtain rfl : j = n := by omega
          have i1 : ¬ (j : Int) < (j : Int) := by omega
          go_wp2_with fail
          have S := hid (lkB_sz h4 j)
          refine (asm_ops B g (lkB j j) wr (Nat.le_trans hB BB.out.size) (gotos_in (lenter_go h1 h4)) (by have := S.out.o; omega) (by have := S.out.g; omega) K.out).mono ?_
          rintro e w99 hp
          rw [← HBW.out] at hp
          have HC := hid (CodePost.of (code := lenterCode j) (show Below w.heap.size w wr by rw [HBW.out]; exact BB.out) hp (lenter_ops h1 h4))
          obtain ⟨v, rfl, ho⟩ := HC.out
          clear hp S
          go_wp2
          go_ret2
          exact ⟨v, rfl, ho⟩
set_option maxHeartbeats 2000000 in
theorem lock_leave (n : Nat) (w : World) (h1 : 1 ≤ n) (h4 : n ≤ 4) : Calls Tryd.prog 26 #[.int .i64 (n : Int)] w fun e w' => CodePost2 w (lleaveCode n) e w' := by
  go_enter Tryd.func26, Tryd.ntmps26
  go_wp2_with fail
  refine (lock_may n w h1 h4).mono ?_
  rintro e w' ⟨rfl, rfl⟩
  go_wp2_with fail
  refine (asm_new w.heap.size [[109, 101]] (some ⟨w.heap.size, 0, none⟩) 1 1 (w.alloc (.cells #[.string ⟨#[109, 101]⟩] 9)) (bnew (bnil w) _).size (by decide) rfl (by decide) (.inr ⟨_, rfl, Blk.new w _ _⟩)).mono ?_
  rintro e w1 hp
  obtain ⟨g, rfl, k1, b1, z1⟩ := hp
  have K := hid k1; have BB := hid ((bnew (bnil w) (.cells #[.string ⟨#[109, 101]⟩] 9)).trans b1)
  clear k1 b1 z1
  go_wp2_with fail
  refine (asm_word w.heap.size g (aregs [[109, 101]] anew) 14 [122, 101, 114, 111] [109, 101] (n : Int) w1 BB.out.size (Nat.le_of_ble_eq_true (by kernel_rfl)) (Nat.le_of_ble_eq_true (by kernel_rfl)) (Nat.le_of_ble_eq_true (by kernel_rfl)) (Nat.le_of_ble_eq_true (by kernel_rfl)) K.out).mono ?_
  rintro e w2 hp
  obtain ⟨rfl, k1, b1, z1⟩ := hp
  have K := hid k1; have BB := hid (BB.out.trans b1)
  clear k1 b1 z1
  go_wp2_with fail
  refine (asm_ops w.heap.size g (aword 14 [122, 101, 114, 111] [109, 101] (n : Int) (aregs [[109, 101]] anew)) w2 BB.out.size (gotos_in (by kernel_rfl)) (Nat.le_of_ble_eq_true (by kernel_rfl)) (Nat.le_of_ble_eq_true (by kernel_rfl)) K.out).mono ?_
  rintro e w99 hp
  have HC := hid (CodePost.of (code := lleaveCode n) BB.out hp (by kernel_rfl))
  obtain ⟨v, rfl, ho⟩ := HC.out
  clear hp
  go_wp2
  go_ret2
  exact ⟨v, rfl, ho⟩
theorem mk_intsL (w : World) (n : Nat) (hn : n ≤ 1000) : ∃ cs : Array Value, cs.toList = (List.replicate n (0 : Int)).flatMap gI ∧ (Instr.makeSlice 24 (.int .i64 (n : Int)) (.int .i64 (n : Int))).run Tryd.prog w = .ok (.slice (some ⟨w.heap.size, 0, none⟩) n n) (w.alloc (.cells cs 3)) := by
  have h := run_make_row' (P := Tryd.prog) 24 3 (.int .i64 0) 8 Tryd.underlying24 (by kernel_rfl) rfl .i64 .i64 n (by omega) (by omega) w
  refine ⟨_, ?_, h⟩
  rw [Go.toList_madeCells_one]
  clear h hn
  induction n with
  | zero => rfl
  | succ n ih => rw [List.replicate_succ, List.replicate_succ, List.flatMap_cons, ← ih]; rfl
set_option maxHeartbeats 1000000 in
theorem lock_words (n : Nat) (w : World) (h1 : 1 ≤ n) (h4 : n ≤ 4) : Calls Tryd.prog 24 #[.int .i64 (n : Int)] w fun e w' => ∃ v, e = .returned (.tuple #[v, .int .i64 0]) ∧ Ow w w' 3 1 gI v (List.replicate (2 * n) 0) := by
  obtain ⟨cs, hcs, hmk⟩ := mk_intsL w (2 * n) (by omega)
  rw [show ((2 * n : Nat) : Int) = 2 * (n : Int) by omega] at hmk
  have HCS := hid hcs
  clear hcs
  go_enter Tryd.func24, Tryd.ntmps24
  go_wp2_with fail
  refine (lock_may n w h1 h4).mono ?_
  rintro e w' ⟨rfl, rfl⟩
  go_wp2
  go_ret2
  have hl : cs.size = 2 * n := by rw [← Array.length_toList, HCS.out, flatMap_len gI 1 (fun _ => rfl)]; simp
  refine ⟨_, rfl, ⟨⟨by simp, .inr ⟨w.heap.size, 2 * n, cs, by rw [List.length_replicate]; rfl, Nat.le_refl _, Blk.new w _ _, by simp, by unfold maxLen; omega, by rw [hl]; simp, ?_⟩⟩, bnew (bnil w) _⟩⟩
  rw [HCS.out, List.take_of_length_le]
  · rw [flatMap_len gI 1 (fun _ => rfl)]; simp
theorem lenter_len {n : Nat} (h1 : 1 ≤ n) (h4 : n ≤ 4) : (lenterCode n).length = 17 * n + 5 := by
  rcases (show n = 1 ∨ n = 2 ∨ n = 3 ∨ n = 4 by omega) with rfl | rfl | rfl | rfl <;> rfl
theorem lenter_sh {n : Nat} (h1 : 1 ≤ n) (h4 : n ≤ 4) : ∀ o ∈ lenterCode n, OpSh (lenterCode n).length o := by
  intro o ho
  rcases (show n = 1 ∨ n = 2 ∨ n = 3 ∨ n = 4 by omega) with rfl | rfl | rfl | rfl
  all_goals
    simp only [lenterCode, List.mem_cons, List.not_mem_nil, or_false] at ho
    repeat' (rcases ho with rfl | ho)
    all_goals first | exact ⟨by decide, by decide, by decide, by decide, by decide⟩ | (subst ho; exact ⟨by decide, by decide, by decide, by decide, by decide⟩)
theorem lleave_sh {n : Nat} (h4 : n ≤ 4) : ∀ o ∈ lleaveCode n, OpSh (lleaveCode n).length o := by
  intro o ho
  rw [List.mem_singleton.1 ho]
  exact ⟨by simp, by simp, by simp, by simp, by simp⟩
end Go.Proofs.YtbcjgnigdddlkaaDoor
