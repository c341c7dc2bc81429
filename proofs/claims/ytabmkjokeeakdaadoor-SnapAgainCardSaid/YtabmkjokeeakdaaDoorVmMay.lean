/-
  vm.fits, vm.May: their walks; the table of shapes.
-/
import Derived.Test.YtabmkjokeeakdaaDoorVmStep2
namespace Go.Proofs.YtabmkjokeeakdaaDoor
open Go.RowKit
set_option linter.unusedVariables false

/-! ### the table of shapes -/
def stab : Array Value := #[.string ⟨#[]⟩, .string ⟨#[114, 110, 45, 45]⟩, .string ⟨#[114, 114, 45, 45]⟩, .string ⟨#[114, 114, 114, 45]⟩, .string ⟨#[114, 114, 114, 45]⟩, .string ⟨#[114, 114, 114, 45]⟩, .string ⟨#[114, 114, 114, 45]⟩, .string ⟨#[114, 114, 114, 45]⟩, .string ⟨#[114, 114, 114, 45]⟩, .string ⟨#[114, 114, 114, 45]⟩, .string ⟨#[112, 45, 45, 45]⟩, .string ⟨#[114, 112, 45, 45]⟩, .string ⟨#[114, 112, 45, 45]⟩, .string ⟨#[114, 114, 110, 45]⟩, .string ⟨#[114, 114, 110, 45]⟩, .string ⟨#[114, 114, 110, 114]⟩, .string ⟨#[114, 45, 45, 45]⟩, .string ⟨#[45, 45, 45, 45]⟩]
def STab (w : World) : Prop := ∃ t fr, w.heap[0]? = some (.cells stab t fr)
theorem STab.lt {w : World} (h : STab w) : 0 < w.heap.size := by obtain ⟨t, fr, h⟩ := h; exact (Array.getElem?_eq_some_iff.1 h).1
theorem STab.below {w w' : World} (h : STab w) (hb : Below w.heap.size w w') : STab w' := by
  have hl := h.lt
  obtain ⟨t, fr, h⟩ := h
  exact ⟨t, fr, (hb.block _ hl).trans h⟩
theorem STab.cell {w : World} (h : STab w) (i : Nat) : w.cell? ⟨0, i, none⟩ = stab[i]? := by
  obtain ⟨t, fr, h⟩ := h
  exact cell_of_row w _ i stab t fr h
/-- what a number may be where a sign stands -/
def FitS (x : UInt8) (v : Int) (n : Nat) : Prop := (x = 114 ∧ 0 ≤ v ∧ v < 24) ∨ (x = 112 ∧ 0 ≤ v ∧ v ≤ (n : Int)) ∨ (x = 45 ∧ v = 0) ∨ x = 110
/-- an instruction that fits its shape, in a code of n -/
structure OpSh (n : Nat) (o : Op5) : Prop where
  k : 1 ≤ o.k ∧ o.k ≤ 17
  a : (o.k ≠ 10 ∧ o.k ≠ 17 ∧ 0 ≤ o.a ∧ o.a < 24) ∨ (o.k = 10 ∧ 0 ≤ o.a ∧ o.a ≤ (n : Int)) ∨ (o.k = 17 ∧ o.a = 0)
  b : (((2 ≤ o.k ∧ o.k ≤ 9) ∨ (13 ≤ o.k ∧ o.k ≤ 15)) ∧ 0 ≤ o.b ∧ o.b < 24) ∨ ((o.k = 11 ∨ o.k = 12) ∧ 0 ≤ o.b ∧ o.b ≤ (n : Int)) ∨ ((o.k = 10 ∨ o.k = 16 ∨ o.k = 17) ∧ o.b = 0) ∨ o.k = 1
  c : (3 ≤ o.k ∧ o.k ≤ 9 ∧ 0 ≤ o.c ∧ o.c < 24) ∨ ((o.k ≤ 2 ∨ (10 ≤ o.k ∧ o.k ≤ 12) ∨ o.k = 16 ∨ o.k = 17) ∧ o.c = 0) ∨ (13 ≤ o.k ∧ o.k ≤ 15)
  d : (o.k = 15 ∧ 0 ≤ o.d ∧ o.d < 24) ∨ (o.k ≠ 15 ∧ o.d = 0)
theorem OpSh.ok {n : Nat} {o : Op5} (h : OpSh n o) : OpOk n o := by
  obtain ⟨hk, ha, hb, hc, hd⟩ := h
  exact ⟨hk, fun _ _ => by omega, fun _ => by omega, fun _ => by omega, fun _ => by omega, fun _ => by omega, fun _ => by omega⟩
set_option maxRecDepth 100000 in
theorem STab.shape {w : World} (h : STab w) {n : Nat} {o : Op5} (ho : OpSh n o) : ∃ (k : Nat) (s : ByteArray) (x0 x1 x2 x3 : UInt8), o.k = (k : Int) ∧ 1 ≤ k ∧ k ≤ 17 ∧ w.cell? ⟨0, k, none⟩ = some (.string s) ∧
    (∀ w, (Instr.index 9 (.string s) (.int .i64 0)).run Tryd.prog w = .ok (.int .u8 (x0.toNat : Int)) w) ∧ (∀ w, (Instr.index 9 (.string s) (.int .i64 1)).run Tryd.prog w = .ok (.int .u8 (x1.toNat : Int)) w) ∧
    (∀ w, (Instr.index 9 (.string s) (.int .i64 2)).run Tryd.prog w = .ok (.int .u8 (x2.toNat : Int)) w) ∧ (∀ w, (Instr.index 9 (.string s) (.int .i64 3)).run Tryd.prog w = .ok (.int .u8 (x3.toNat : Int)) w) ∧
    FitS x0 o.a n ∧ FitS x1 o.b n ∧ FitS x2 o.c n ∧ FitS x3 o.d n := by
  obtain ⟨k, hk, e⟩ : ∃ k : Nat, 1 ≤ k ∧ o.k = (k : Int) := ⟨o.k.toNat, by have := ho.k; omega, by have := ho.k; omega⟩
  obtain ⟨hk', ha, hb, hc, hd⟩ := ho
  have hk17 : k ≤ 17 := by omega
  have hs := h.cell k
  have R : FitS 114 = fun (v : Int) (n : Nat) => (0 ≤ v ∧ v < 24) := by funext v n; unfold FitS; simp
  have P : FitS 112 = fun (v : Int) (n : Nat) => (0 ≤ v ∧ v ≤ (n : Int)) := by funext v n; unfold FitS; simp
  have Z : FitS 45 = fun (v : Int) (n : Nat) => v = 0 := by funext v n; unfold FitS; simp
  have N : FitS 110 = fun (v : Int) (n : Nat) => True := by funext v n; unfold FitS; simp
  have hkk : k = 1 ∨ k = 2 ∨ k = 3 ∨ k = 4 ∨ k = 5 ∨ k = 6 ∨ k = 7 ∨ k = 8 ∨ k = 9 ∨ k = 10 ∨ k = 11 ∨ k = 12 ∨ k = 13 ∨ k = 14 ∨ k = 15 ∨ k = 16 ∨ k = 17 := by omega
  rw [e] at ha hb hc hd
  rcases hkk with rfl | rfl | rfl | rfl | rfl | rfl | rfl | rfl | rfl | rfl | rfl | rfl | rfl | rfl | rfl | rfl | rfl
  · exact ⟨1, _, 114, 110, 45, 45, e, by omega, by omega, hs, fun _ => rfl, fun _ => rfl, fun _ => rfl, fun _ => rfl, by rw [R]; simp only; omega, by rw [N]; trivial, by rw [Z]; simp only; omega, by rw [Z]; simp only; omega⟩
  · exact ⟨2, _, 114, 114, 45, 45, e, by omega, by omega, hs, fun _ => rfl, fun _ => rfl, fun _ => rfl, fun _ => rfl, by rw [R]; simp only; omega, by rw [R]; simp only; omega, by rw [Z]; simp only; omega, by rw [Z]; simp only; omega⟩
  · exact ⟨3, _, 114, 114, 114, 45, e, by omega, by omega, hs, fun _ => rfl, fun _ => rfl, fun _ => rfl, fun _ => rfl, by rw [R]; simp only; omega, by rw [R]; simp only; omega, by rw [R]; simp only; omega, by rw [Z]; simp only; omega⟩
  · exact ⟨4, _, 114, 114, 114, 45, e, by omega, by omega, hs, fun _ => rfl, fun _ => rfl, fun _ => rfl, fun _ => rfl, by rw [R]; simp only; omega, by rw [R]; simp only; omega, by rw [R]; simp only; omega, by rw [Z]; simp only; omega⟩
  · exact ⟨5, _, 114, 114, 114, 45, e, by omega, by omega, hs, fun _ => rfl, fun _ => rfl, fun _ => rfl, fun _ => rfl, by rw [R]; simp only; omega, by rw [R]; simp only; omega, by rw [R]; simp only; omega, by rw [Z]; simp only; omega⟩
  · exact ⟨6, _, 114, 114, 114, 45, e, by omega, by omega, hs, fun _ => rfl, fun _ => rfl, fun _ => rfl, fun _ => rfl, by rw [R]; simp only; omega, by rw [R]; simp only; omega, by rw [R]; simp only; omega, by rw [Z]; simp only; omega⟩
  · exact ⟨7, _, 114, 114, 114, 45, e, by omega, by omega, hs, fun _ => rfl, fun _ => rfl, fun _ => rfl, fun _ => rfl, by rw [R]; simp only; omega, by rw [R]; simp only; omega, by rw [R]; simp only; omega, by rw [Z]; simp only; omega⟩
  · exact ⟨8, _, 114, 114, 114, 45, e, by omega, by omega, hs, fun _ => rfl, fun _ => rfl, fun _ => rfl, fun _ => rfl, by rw [R]; simp only; omega, by rw [R]; simp only; omega, by rw [R]; simp only; omega, by rw [Z]; simp only; omega⟩
  · exact ⟨9, _, 114, 114, 114, 45, e, by omega, by omega, hs, fun _ => rfl, fun _ => rfl, fun _ => rfl, fun _ => rfl, by rw [R]; simp only; omega, by rw [R]; simp only; omega, by rw [R]; simp only; omega, by rw [Z]; simp only; omega⟩
  · exact ⟨10, _, 112, 45, 45, 45, e, by omega, by omega, hs, fun _ => rfl, fun _ => rfl, fun _ => rfl, fun _ => rfl, by rw [P]; simp only; omega, by rw [Z]; simp only; omega, by rw [Z]; simp only; omega, by rw [Z]; simp only; omega⟩
  · exact ⟨11, _, 114, 112, 45, 45, e, by omega, by omega, hs, fun _ => rfl, fun _ => rfl, fun _ => rfl, fun _ => rfl, by rw [R]; simp only; omega, by rw [P]; simp only; omega, by rw [Z]; simp only; omega, by rw [Z]; simp only; omega⟩
  · exact ⟨12, _, 114, 112, 45, 45, e, by omega, by omega, hs, fun _ => rfl, fun _ => rfl, fun _ => rfl, fun _ => rfl, by rw [R]; simp only; omega, by rw [P]; simp only; omega, by rw [Z]; simp only; omega, by rw [Z]; simp only; omega⟩
  · exact ⟨13, _, 114, 114, 110, 45, e, by omega, by omega, hs, fun _ => rfl, fun _ => rfl, fun _ => rfl, fun _ => rfl, by rw [R]; simp only; omega, by rw [R]; simp only; omega, by rw [N]; trivial, by rw [Z]; simp only; omega⟩
  · exact ⟨14, _, 114, 114, 110, 45, e, by omega, by omega, hs, fun _ => rfl, fun _ => rfl, fun _ => rfl, fun _ => rfl, by rw [R]; simp only; omega, by rw [R]; simp only; omega, by rw [N]; trivial, by rw [Z]; simp only; omega⟩
  · exact ⟨15, _, 114, 114, 110, 114, e, by omega, by omega, hs, fun _ => rfl, fun _ => rfl, fun _ => rfl, fun _ => rfl, by rw [R]; simp only; omega, by rw [R]; simp only; omega, by rw [N]; trivial, by rw [R]; simp only; omega⟩
  · exact ⟨16, _, 114, 45, 45, 45, e, by omega, by omega, hs, fun _ => rfl, fun _ => rfl, fun _ => rfl, fun _ => rfl, by rw [R]; simp only; omega, by rw [Z]; simp only; omega, by rw [Z]; simp only; omega, by rw [Z]; simp only; omega⟩
  · exact ⟨17, _, 45, 45, 45, 45, e, by omega, by omega, hs, fun _ => rfl, fun _ => rfl, fun _ => rfl, fun _ => rfl, by rw [Z]; simp only; omega, by rw [Z]; simp only; omega, by rw [Z]; simp only; omega, by rw [Z]; simp only; omega⟩
theorem vm_fits (x : UInt8) (v : Int) (n : Nat) (w : World) (h : FitS x v n) : Calls Tryd.prog 75 #[.int .u8 (x.toNat : Int), .int .i64 v, .int .i64 (n : Int)] w fun e w' => e = .returned (.bool true) ∧ w' = w := by
  rcases h with ⟨rfl, h0, h1⟩ | ⟨rfl, h0, h1⟩ | ⟨rfl, rfl⟩ | rfl
  · show Calls _ _ #[.int .u8 114, _, _] _ _
    go_enter Tryd.func75, Tryd.ntmps75
    go_wp2
    go_ret
    exact ⟨rfl, rfl⟩
  · show Calls _ _ #[.int .u8 112, _, _] _ _
    go_enter Tryd.func75, Tryd.ntmps75
    go_wp2
    go_ret
    exact ⟨rfl, rfl⟩
  · show Calls _ _ #[.int .u8 45, _, _] _ _
    go_enter Tryd.func75, Tryd.ntmps75
    go_wp2
    go_ret
    exact ⟨rfl, rfl⟩
  · show Calls _ _ #[.int .u8 110, _, _] _ _
    go_enter Tryd.func75, Tryd.ntmps75
    go_wp2
    go_ret
    exact ⟨rfl, rfl⟩
set_option maxHeartbeats 2000000 in
set_option maxRecDepth 100000 in
theorem vm_may (A : Option Addr) (n c : Nat) (code : List Op5) (w : World) (hn : n ≤ 200) (hT : STab w) (hok : ∀ o ∈ code, OpSh n o) (hcd : Sl w 5 A n (code.flatMap gO)) :
    Calls Tryd.prog 54 #[.slice A n c] w fun e w' => e = .returned (.bool true) ∧ Below w.heap.size w w' := by
  have HC := hid hcd; have HT := hid hT; have HO := hid hok
  clear hcd hT hok
  go_enter Tryd.func54, Tryd.ntmps54
  go_wp2
  go_loopw [9] (fun i wr => ∃ k : Nat, k ≤ n ∧ i = .int .i64 k ∧ Below w.heap.size w wr) (fun i _ => n - (intOf i).toNat)
  case atStart => exact ⟨0, Nat.zero_le _, rfl, bnil _⟩
  case round =>
    obtain ⟨k, hk, rfl, hb⟩ := hrel
    have HW := hid hb; clear hb
    by_cases hlt : k < n
    · obtain ⟨ad, o, rfl, ho, c1, c2, c3, c4, c5⟩ := (HC.out.below HW.out).opAt hlt
      obtain ⟨q, s, x0, x1, x2, x3, ek, q1, q2, cs, z0, z1, z2, z3, f0, f1, f2, f3⟩ := (HT.out.below HW.out).shape (HO.out o (List.mem_of_getElem? ho))
      obtain ⟨ok, oa, ob, oc, od⟩ := o
      simp only at ek c1 c2 c3 c4 c5 f0 f1 f2 f3
      subst ek
      have F0 := hid f0; have F1 := hid f1; have F2 := hid f2; have F3 := hid f3
      clear f0 f1 f2 f3 ho
      have i1 : (k : Int) < (n : Int) := by omega
      have i2 : (q : Int) < 18 := by omega
      have i3 : ¬ (q : Int) < 1 := by omega
      have i4 : ¬ (17 < (q : Int)) := by omega
      have lg : 0 < wr.heap.size := (HT.out.below HW.out).lt
      have HST := hid (HT.out.below HW.out)
      have y0 : ∀ w, (Instr.index 115 (.agg #[.int .i64 oa, .int .i64 ob, .int .i64 oc, .int .i64 od]) (.int .i64 0)).run Tryd.prog w = .ok (.int .i64 oa) w := fun _ => rfl
      have y1 : ∀ w, (Instr.index 115 (.agg #[.int .i64 oa, .int .i64 ob, .int .i64 oc, .int .i64 od]) (.int .i64 1)).run Tryd.prog w = .ok (.int .i64 ob) w := fun _ => rfl
      have y2 : ∀ w, (Instr.index 115 (.agg #[.int .i64 oa, .int .i64 ob, .int .i64 oc, .int .i64 od]) (.int .i64 2)).run Tryd.prog w = .ok (.int .i64 oc) w := fun _ => rfl
      have y3 : ∀ w, (Instr.index 115 (.agg #[.int .i64 oa, .int .i64 ob, .int .i64 oc, .int .i64 od]) (.int .i64 3)).run Tryd.prog w = .ok (.int .i64 od) w := fun _ => rfl
      go_wp2_with fail
      go_loopw [30] (fun i w2 => (i = .int .i64 0 ∨ i = .int .i64 1 ∨ i = .int .i64 2 ∨ i = .int .i64 3 ∨ i = .int .i64 4) ∧ w2 = wr.alloc (.cells #[.int .i64 q, .int .i64 oa, .int .i64 ob, .int .i64 oc, .int .i64 od] 99)) (fun i _ => 4 - (intOf i).toNat)
      case atStart => exact ⟨.inl rfl, rfl⟩
      case round =>
        obtain ⟨hi, rfl⟩ := hrel
        rcases hi with rfl | rfl | rfl | rfl | rfl
        · go_wp2_with fail
          refine (vm_fits x0 oa n _ F0.out).mono ?_
          rintro e w3 ⟨rfl, rfl⟩
          go_wp2
          go_roundw
          case rel => exact ⟨.inr (.inl rfl), trivial⟩
          case measure => simp [intOf]
        · go_wp2_with fail
          refine (vm_fits x1 ob n _ F1.out).mono ?_
          rintro e w3 ⟨rfl, rfl⟩
          go_wp2
          go_roundw
          case rel => exact ⟨.inr (.inr (.inl rfl)), trivial⟩
          case measure => simp [intOf]
        · go_wp2_with fail
          refine (vm_fits x2 oc n _ F2.out).mono ?_
          rintro e w3 ⟨rfl, rfl⟩
          go_wp2
          go_roundw
          case rel => exact ⟨.inr (.inr (.inr (.inl rfl))), trivial⟩
          case measure => simp [intOf]
        · go_wp2_with fail
          refine (vm_fits x3 od n _ F3.out).mono ?_
          rintro e w3 ⟨rfl, rfl⟩
          go_wp2
          go_roundw
          case rel => exact ⟨.inr (.inr (.inr (.inr rfl))), trivial⟩
          case measure => simp [intOf]
        · go_wp2
          go_roundw
          case rel => exact ⟨k + 1, by omega, by go_num, bgo HW.out (bnew (bnil _) _)⟩
          case measure => simp [intOf]; omega
    · obtain rfl : k = n := by omega
      have i5 : (k : Int) ≤ 200 := by omega
      go_wp2
      go_ret
      exact ⟨rfl, HW.out⟩
end Go.Proofs.YtabmkjokeeakdaaDoor
