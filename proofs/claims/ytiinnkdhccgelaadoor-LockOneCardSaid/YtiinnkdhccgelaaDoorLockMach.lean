/-
  barographkeep.lockMachine: its walk. Written by gen_lockm.py.
-/
import Derived.Test.YtiinnkdhccgelaaDoorMBun
import Derived.Test.YtiinnkdhccgelaaDoorKeep16
import Derived.Test.YtiinnkdhccgelaaDoorLDef
import Derived.Test.YtiinnkdhccgelaaDoorRunMay
import Derived.Deep.RegionHeld
namespace Go.Proofs.YtiinnkdhccgelaaDoor
open Go.RowKit
set_option linter.unusedVariables false

theorem mk_arrL (n : Nat) : madeCells #[Value.slice none 0 0] n = arrN (fun _ => .slice none 0 0) n := by
  apply Array.ext'
  rw [Go.toList_madeCells_one]
  unfold arrN
  refine List.ext_getElem? fun j => ?_
  simp [List.getElem?_replicate]
  try split <;> simp_all
/-- the first region -/
structure LockR (w0 : World) (Wv Iv Ov : Value) (work n : Nat) (L : Nat → Bool) (x54 x55 x56 x57 x58 x59 x60 x61 x62 x14 : Value) (w : World) : Prop where
  b : Below w0.heap.size w0 w
  f0 : L 0 = true → x54 = Wv
  f1 : L 1 = true → x55 = Iv
  f2 : L 2 = true → x56 = Ov
  f3 : L 3 = true → x57 = .int .i64 (work : Int)
  f4 : L 4 = true → ∃ b, x58 = .slice (some ⟨b, 0, none⟩) work work ∧ w0.heap.size ≤ b ∧ Blk w b 71 (((List.replicate work (⟨0, 0, 0, 0, 0⟩ : Op5)).flatMap gO).toArray)
  f5 : L 5 = true → ∃ b, x59 = .slice (some ⟨b, 0, none⟩) 3 3 ∧ w0.heap.size ≤ b ∧ Blk w b 28 #[x55, x56, x58]
  f6 : L 6 = true → x60 = .int .i64 (n : Int)
  f7 : L 7 = true → ∃ b, x61 = .slice (some ⟨b, 0, none⟩) n n ∧ w0.heap.size ≤ b ∧ Blk w b 54 (arrN (fun _ => Value.slice none 0 0) n)
  f8 : L 8 = true → x62 = .agg #[x54, x59, x61]
  f9 : L 9 = true → L 10 = false → ∃ b, x14 = .pointer (some ⟨b, 0, none⟩) ∧ w0.heap.size ≤ b ∧ Blk w b 34 #[.slice none 0 0, .slice none 0 0, .slice none 0 0]
  f10 : L 10 = true → ∃ b, x14 = .pointer (some ⟨b, 0, none⟩) ∧ w0.heap.size ≤ b ∧ Blk w b 34 #[x54, x59, x61]
section
variable {w0 : World} {Wv Iv Ov : Value} {work n : Nat} {L : Nat → Bool} {x54 x55 x56 x57 x58 x59 x60 x61 x62 x14 : Value} {w w' : World}
theorem LockR.below (h : LockR w0 Wv Iv Ov work n L x54 x55 x56 x57 x58 x59 x60 x61 x62 x14 w) (hb : Below w.heap.size w w') : LockR w0 Wv Iv Ov work n L x54 x55 x56 x57 x58 x59 x60 x61 x62 x14 w' where
  b := bgo h.b hb
  f0 := h.f0
  f1 := h.f1
  f2 := h.f2
  f3 := h.f3
  f6 := h.f6
  f8 := h.f8
  f4 := fun e => by obtain ⟨b, h1, h2, h3⟩ := h.f4 e; exact ⟨b, h1, h2, h3.below' hb⟩
  f5 := fun e => by obtain ⟨b, h1, h2, h3⟩ := h.f5 e; exact ⟨b, h1, h2, h3.below' hb⟩
  f7 := fun e => by obtain ⟨b, h1, h2, h3⟩ := h.f7 e; exact ⟨b, h1, h2, h3.below' hb⟩
  f9 := fun e e' => by obtain ⟨b, h1, h2, h3⟩ := h.f9 e e'; exact ⟨b, h1, h2, h3.below' hb⟩
  f10 := fun e => by obtain ⟨b, h1, h2, h3⟩ := h.f10 e; exact ⟨b, h1, h2, h3.below' hb⟩
theorem LockR.store {X : Nat} {L' : Nat → Bool} (h : LockR w0 Wv Iv Ov work n L x54 x55 x56 x57 x58 x59 x60 x61 x62 (.pointer (some ⟨X, 0, none⟩)) w) (hX : w0.heap.size ≤ X) (hb : Blk w X 34 #[.slice none 0 0, .slice none 0 0, .slice none 0 0]) (hL : ∀ i, i ≠ 10 → L' i = L i) (h9 : L' 10 = true) : LockR w0 Wv Iv Ov work n L' x54 x55 x56 x57 x58 x59 x60 x61 x62 (.pointer (some ⟨X, 0, none⟩)) (((w.setCell ⟨X, 0, none⟩ x54).setCell ⟨X, 1, none⟩ x59).setCell ⟨X, 2, none⟩ x61) := by
  have hC : Chg (fun k => k = X) w (((w.setCell ⟨X, 0, none⟩ x54).setCell ⟨X, 1, none⟩ x59).setCell ⟨X, 2, none⟩ x61) :=
    (((Chg.refl (fun k => k = X) w).setCell (p := ⟨X, 0, none⟩) (fun _ => rfl) _).setCell (p := ⟨X, 1, none⟩) (fun _ => rfl) _).setCell (p := ⟨X, 2, none⟩) (fun _ => rfl) _
  have bk : ∀ {g t : Nat} {cs : Array Value}, t ≠ 34 → Blk w g t cs → Blk (((w.setCell ⟨X, 0, none⟩ x54).setCell ⟨X, 1, none⟩ x59).setCell ⟨X, 2, none⟩ x61) g t cs := fun h1 h2 => hC.blk h2 fun e => by subst e; exact h1 (blk_ty h2 hb)
  have e0 := hL 0 (by decide)
  have e1 := hL 1 (by decide)
  have e2 := hL 2 (by decide)
  have e3 := hL 3 (by decide)
  have e4 := hL 4 (by decide)
  have e5 := hL 5 (by decide)
  have e6 := hL 6 (by decide)
  have e7 := hL 7 (by decide)
  have e8 := hL 8 (by decide)
  refine ⟨((h.b.setCell (p := ⟨X, 0, none⟩) hX _).setCell (p := ⟨X, 1, none⟩) hX _).setCell (p := ⟨X, 2, none⟩) hX _, ?_, ?_, ?_, ?_, ?_, ?_, ?_, ?_, ?_, ?_, ?_⟩
  · rw [e0]; exact h.f0
  · rw [e1]; exact h.f1
  · rw [e2]; exact h.f2
  · rw [e3]; exact h.f3
  · rw [e4]; intro e; obtain ⟨b, h1, h2, h3⟩ := h.f4 e; exact ⟨b, h1, h2, bk (by decide) h3⟩
  · rw [e5]; intro e; obtain ⟨b, h1, h2, h3⟩ := h.f5 e; exact ⟨b, h1, h2, bk (by decide) h3⟩
  · rw [e6]; exact h.f6
  · rw [e7]; intro e; obtain ⟨b, h1, h2, h3⟩ := h.f7 e; exact ⟨b, h1, h2, bk (by decide) h3⟩
  · rw [e8]; exact h.f8
  · intro _ e; rw [h9] at e; cases e
  · intro _; exact ⟨X, rfl, hX, ((hb.set_ 0 _).set_ 1 _).set_ 2 _⟩
end
/-- what the maker gives -/
def LockPost (w : World) (n : Nat) (f : Nat → Nat) (work : Nat) (e : Ending) (w' : World) : Prop :=
  ∃ (AW : Option Addr) (cW Cb T : Nat) (cv tv : Nat → Value) (av : Nat → List SV), e = .returned (.tuple #[.agg #[(.slice AW (2 * n) cW), .slice (some ⟨Cb, 0, none⟩) 3 3, .slice (some ⟨T, 0, none⟩) n n], .bool true]) ∧
    w'.ownsRow w.heap.size 3 1 (.slice AW (2 * n) cW) (2 * n) ((List.replicate (2 * n) (0 : Int)).flatMap gI) ∧ MN w.heap.size w' 3 n Cb T cv (fun i => [lenterCode n, lleaveCode n, lops work work].getD i []) tv (lths f work n 0) av ∧ Below w.heap.size w w'
set_option maxHeartbeats 8000000 in
set_option maxRecDepth 100000 in
theorem lock_machine (n : Nat) (O : Option Addr) (co work : Nat) (f : Nat → Nat) (w : World) (h1 : 1 ≤ n) (h4 : n ≤ 4) (hwork4 : work ≤ 40) (hf : ∀ t, t < n → f t ≤ 6) (hO : Sl w 1 O 4 (ints ((List.range 4).map fun t => (f t : Int)))) (hT : STab w) :
    Calls Tryd.prog 36 #[.int .i64 (n : Int), .slice O 4 co, .int .i64 (work : Int)] w fun e w' => LockPost w n f work e w' := by
  have HO := hid hO; have HT := hid hT; have HFF := hid hf
  have HWL := hid (show (List.replicate (2 * n) (0 : Int)).length = 2 * n by rw [List.length_replicate])
  have hwork : work ≤ 1000 := by omega
  have in4 : (n : Int) ≤ 4 := by omega
  clear hO hT hf
  go_enter Tryd.func36, Tryd.ntmps36
  go_wp2_with fail
  have HG := hid (Blk.new w 34 #[.slice none 0 0, .slice none 0 0, .slice none 0 0])
  have B0 := hid (bnew (bnil w) (.cells #[.slice none 0 0, .slice none 0 0, .slice none 0 0] 34))
  generalize World.alloc w (.cells #[.slice none 0 0, .slice none 0 0, .slice none 0 0] 34) = w0 at *
  refine (lock_words n w0 h1 h4).mono ?_
  rintro e w1 ⟨v1, rfl, o1⟩
  obtain ⟨AW, cW, rfl, hcW, hcW2⟩ := o1.form
  rw [HWL.out] at hcW ⊢
  have OW1 := hid (show w1.ownsRow w0.heap.size 3 1 (.slice AW (2 * n) cW) (2 * n) ((List.replicate (2 * n) (0 : Int)).flatMap gI) by have h := o1.own; rw [HWL.out] at h; exact h)
  have BW1 := hid o1.below
  clear o1
  go_wp2_with fail
  refine (lock_enter n w1 h1 h4).mono ?_
  rintro e w2 ⟨v2, rfl, o2⟩
  obtain ⟨A1, c1, rfl, hc1, hc12⟩ := o2.form
  have O2 := hid o2
  clear o2
  go_wp2_with fail
  refine (lock_leave n w2 h1 h4).mono ?_
  rintro e w3 ⟨v3, rfl, o3⟩
  obtain ⟨A2, c2, rfl, hc2, hc22⟩ := o3.form
  have O3 := hid o3
  clear o3
  have B13 := hid (bgo (bgo BW1.out O2.out.below) O3.out.below)
  have B3 := hid (bgo B0.out B13.out)
  have HG3 := hid (HG.out.below' B13.out)
  have HW3 := hid (own_below (own_lower OW1.out B0.out.size) (bgo O2.out.below O3.out.below))
  have HC1 := hid (own_below (own_lower O2.out.own (bgo B0.out BW1.out).size) O3.out.below)
  have HC2 := hid (own_lower O3.out.own (bgo (bgo B0.out BW1.out) O2.out.below).size)
  have hle1 : 0 < (lenterCode n).length := by rw [lenter_len h1 h4]; omega
  have hle2 : 0 < (lleaveCode n).length := Nat.le_of_ble_eq_true rfl
  have il1 : ((0 : Int) < ((lenterCode n).length : Int)) := by omega
  have il2 : ((0 : Int) < ((lleaveCode n).length : Int)) := by omega
  have jl1 : ((((lenterCode n).length : Int)) == 0) = false := beqF (by omega)
  have jl2 : ((((lleaveCode n).length : Int)) == 0) = false := beqF (by omega)
  clear HG B0 OW1 BW1 O2 O3 B13
  go_upto_region 6 with fail
  refine wp_region_inv (by kernel_rfl) (fun a0 L a wr => ∃ x54 x55 x56 x57 x58 x59 x60 x61 x62 x14, a = ((((((((((a0.put (some 54) x54).put (some 55) x55).put (some 56) x56).put (some 57) x57).put (some 58) x58).put (some 59) x59).put (some 60) x60).put (some 61) x61).put (some 62) x62).put (some 14) x14) ∧ LockR w3 (.slice AW (2 * n) cW) (.slice A1 (lenterCode n).length c1) (.slice A2 (lleaveCode n).length c2) work n L x54 x55 x56 x57 x58 x59 x60 x61 x62 x14 wr) (by kernel_rfl) ?_ ?_ ?_
  · exact ⟨undef, undef, undef, undef, undef, undef, undef, undef, undef, undef, by kernel_rfl, ⟨(bnil w3).drew, (fun h => by cases h), (fun h => by cases h), (fun h => by cases h), (fun h => by cases h), (fun h => by cases h), (fun h => by cases h), (fun h => by cases h), (fun h => by cases h), (fun h => by cases h), (fun h => by cases h), (fun h => by cases h)⟩⟩
  · intro j hj L b wr hR hLj hcl hpre
    obtain ⟨x54, x55, x56, x57, x58, x59, x60, x61, x62, x14, rfl, H⟩ := hR
    have hj' : j = 0 ∨ j = 1 ∨ j = 2 ∨ j = 3 ∨ j = 4 ∨ j = 5 ∨ j = 6 ∨ j = 7 ∨ j = 8 ∨ j = 9 ∨ j = 10 := by
      have : j < 11 := hj
      omega
    have lt0 := H.b.size
    rcases hj' with rfl | rfl | rfl | rfl | rfl | rfl | rfl | rfl | rfl | rfl | rfl
    · have n8 : L 8 ≠ true := fun e => by have := hcl 8 0 (by kernel_rfl) e; rw [hLj] at this; cases this
      have n10 : L 10 ≠ true := fun e => by have := hcl 10 0 (by kernel_rfl) e; rw [hLj] at this; cases this
      clear hcl hpre
      refine wpOp_at rfl rfl fun K hK => ?_
      go_simp
      exact hK _ _ ⟨(.slice AW (2 * n) cW), x55, x56, x57, x58, x59, x60, x61, x62, x14, by kernel_rfl, ⟨H.b, fun _ => rfl, H.f1, H.f2, H.f3, H.f4, H.f5, H.f6, H.f7, fun e => absurd e n8, H.f9, fun e => absurd e n10⟩⟩
    · have n5 : L 5 ≠ true := fun e => by have := hcl 5 1 (by kernel_rfl) e; rw [hLj] at this; cases this
      clear hcl hpre
      refine wpOp_at rfl rfl fun K hK => ?_
      go_simp
      exact hK _ _ ⟨x54, (.slice A1 (lenterCode n).length c1), x56, x57, x58, x59, x60, x61, x62, x14, by kernel_rfl, ⟨H.b, H.f0, fun _ => rfl, H.f2, H.f3, H.f4, fun e => absurd e n5, H.f6, H.f7, H.f8, H.f9, H.f10⟩⟩
    · have n5 : L 5 ≠ true := fun e => by have := hcl 5 2 (by kernel_rfl) e; rw [hLj] at this; cases this
      clear hcl hpre
      refine wpOp_at rfl rfl fun K hK => ?_
      go_simp
      exact hK _ _ ⟨x54, x55, (.slice A2 (lleaveCode n).length c2), x57, x58, x59, x60, x61, x62, x14, by kernel_rfl, ⟨H.b, H.f0, H.f1, fun _ => rfl, H.f3, H.f4, fun e => absurd e n5, H.f6, H.f7, H.f8, H.f9, H.f10⟩⟩
    · clear hcl hpre
      refine wpOp_at rfl rfl fun K hK => ?_
      go_simp
      exact hK _ _ ⟨x54, x55, x56, .int .i64 (work : Int), x58, x59, x60, x61, x62, x14, by kernel_rfl, ⟨H.b, H.f0, H.f1, H.f2, fun _ => rfl, H.f4, H.f5, H.f6, H.f7, H.f8, H.f9, H.f10⟩⟩
    · have n5 : L 5 ≠ true := fun e => by have := hcl 5 4 (by kernel_rfl) e; rw [hLj] at this; cases this
      have e3 := H.f3 (hpre 3 (by kernel_rfl))
      clear hcl hpre
      refine wpOp_at rfl rfl fun K hK => ?_
      subst e3
      have hmk := mkOps wr work hwork
      go_simp
      have Hb := H.below (bnew (bnil wr) (.cells (((List.replicate work (⟨0, 0, 0, 0, 0⟩ : Op5)).flatMap gO).toArray) 71))
      exact hK _ _ ⟨x54, x55, x56, _, .slice (some ⟨wr.heap.size, 0, none⟩) work work, x59, x60, x61, x62, x14, by kernel_rfl, ⟨Hb.b, Hb.f0, Hb.f1, Hb.f2, Hb.f3, fun _ => ⟨wr.heap.size, rfl, lt0, Blk.new wr _ _⟩, fun e => absurd e n5, Hb.f6, Hb.f7, Hb.f8, Hb.f9, Hb.f10⟩⟩
    · have n8 : L 8 ≠ true := fun e => by have := hcl 8 5 (by kernel_rfl) e; rw [hLj] at this; cases this
      have n10 : L 10 ≠ true := fun e => by have := hcl 10 5 (by kernel_rfl) e; rw [hLj] at this; cases this
      have e1 := H.f1 (hpre 1 (by kernel_rfl))
      have e2 := H.f2 (hpre 2 (by kernel_rfl))
      obtain ⟨b4, e4, _⟩ := H.f4 (hpre 4 (by kernel_rfl))
      clear hcl hpre
      refine wpOp_at rfl rfl fun K hK => ?_
      subst e1; subst e2; subst e4
      go_simp
      have Hb := H.below (bnew (bnil wr) (.cells #[(.slice A1 (lenterCode n).length c1), (.slice A2 (lleaveCode n).length c2), .slice (some ⟨b4, 0, none⟩) work work] 28))
      exact hK _ _ ⟨x54, _, _, x57, _, .slice (some ⟨wr.heap.size, 0, none⟩) 3 3, x60, x61, x62, x14, by kernel_rfl, ⟨Hb.b, Hb.f0, Hb.f1, Hb.f2, Hb.f3, Hb.f4, fun _ => ⟨wr.heap.size, rfl, lt0, Blk.new wr _ _⟩, Hb.f6, Hb.f7, fun e => absurd e n8, Hb.f9, fun e => absurd e n10⟩⟩
    · clear hcl hpre
      refine wpOp_at rfl rfl fun K hK => ?_
      go_simp
      exact hK _ _ ⟨x54, x55, x56, x57, x58, x59, .int .i64 (n : Int), x61, x62, x14, by kernel_rfl, ⟨H.b, H.f0, H.f1, H.f2, H.f3, H.f4, H.f5, fun _ => rfl, H.f7, H.f8, H.f9, H.f10⟩⟩
    · have n8 : L 8 ≠ true := fun e => by have := hcl 8 7 (by kernel_rfl) e; rw [hLj] at this; cases this
      have n10 : L 10 ≠ true := fun e => by have := hcl 10 7 (by kernel_rfl) e; rw [hLj] at this; cases this
      have e6 := H.f6 (hpre 6 (by kernel_rfl))
      clear hcl hpre
      refine wpOp_at rfl rfl fun K hK => ?_
      subst e6
      have hmk := mkT wr n (by omega) _ (mk_arrL n)
      go_simp
      have Hb := H.below (bnew (bnil wr) (.cells (arrN (fun _ => Value.slice none 0 0) n) 54))
      exact hK _ _ ⟨x54, x55, x56, x57, x58, x59, _, .slice (some ⟨wr.heap.size, 0, none⟩) n n, x62, x14, by kernel_rfl, ⟨Hb.b, Hb.f0, Hb.f1, Hb.f2, Hb.f3, Hb.f4, Hb.f5, Hb.f6, fun _ => ⟨wr.heap.size, rfl, lt0, Blk.new wr _ _⟩, fun e => absurd e n8, Hb.f9, fun e => absurd e n10⟩⟩
    · have n10 : L 10 ≠ true := fun e => by have := hcl 10 8 (by kernel_rfl) e; rw [hLj] at this; cases this
      have e0 := H.f0 (hpre 0 (by kernel_rfl))
      obtain ⟨b5, e5, _⟩ := H.f5 (hpre 5 (by kernel_rfl))
      obtain ⟨b7, e7, _⟩ := H.f7 (hpre 7 (by kernel_rfl))
      clear hcl hpre
      refine wpOp_at rfl rfl fun K hK => ?_
      subst e0; subst e5; subst e7
      go_simp
      exact hK _ _ ⟨_, x55, x56, x57, x58, _, x60, _, _, x14, by kernel_rfl, ⟨H.b, H.f0, H.f1, H.f2, H.f3, H.f4, H.f5, H.f6, H.f7, fun _ => rfl, H.f9, fun e => absurd e n10⟩⟩
    · have n10 : L 10 ≠ true := fun e => by have := hcl 10 9 (by kernel_rfl) e; rw [hLj] at this; cases this
      clear hcl hpre
      refine wpOp_at rfl rfl fun K hK => ?_
      go_simp
      have Hb := H.below (bnew (bnil wr) (.cells #[.slice none 0 0, .slice none 0 0, .slice none 0 0] 34))
      exact hK _ _ ⟨x54, x55, x56, x57, x58, x59, x60, x61, x62, .pointer (some ⟨wr.heap.size, 0, none⟩), by kernel_rfl, ⟨Hb.b, Hb.f0, Hb.f1, Hb.f2, Hb.f3, Hb.f4, Hb.f5, Hb.f6, Hb.f7, Hb.f8, fun _ _ => ⟨wr.heap.size, rfl, lt0, Blk.new wr _ _⟩, fun e => absurd e n10⟩⟩
    · have e8 := H.f8 (hpre 8 (by kernel_rfl))
      have e0 := H.f0 (hcl 8 0 (by kernel_rfl) (hpre 8 (by kernel_rfl)))
      obtain ⟨b5, e5, _⟩ := H.f5 (hcl 8 5 (by kernel_rfl) (hpre 8 (by kernel_rfl)))
      obtain ⟨b7, e7, _⟩ := H.f7 (hcl 8 7 (by kernel_rfl) (hpre 8 (by kernel_rfl)))
      obtain ⟨X, eM, hX, hB⟩ := H.f9 (hpre 9 (by kernel_rfl)) hLj
      clear hcl hpre
      refine wpOp_at rfl rfl fun K hK => ?_
      subst e8; subst e0; subst e5; subst e7; subst eM
      have q0 := hB.cell 0; have q1 := hB.cell 1; have q2 := hB.cell 2
      have r0 := hB.frozen 0; have r1 := hB.frozen 1; have r2 := hB.frozen 2
      go_simp
      exact hK _ _ ⟨_, x55, x56, x57, x58, _, x60, _, _, _, by kernel_rfl, H.store hX hB (fun i hi => by simp [hi]) (by simp)⟩
  · intro L b wr hR hall
    obtain ⟨x54, x55, x56, x57, x58, x59, x60, x61, x62, x14, rfl, H⟩ := hR
    obtain ⟨X, rfl, hX, hB⟩ := H.f10 (hall 10 (by decide))
    obtain rfl := H.f0 (hall 0 (by decide))
    obtain ⟨Cb, rfl, hC, hCB⟩ := H.f5 (hall 5 (by decide))
    obtain ⟨T, rfl, hT, hTB⟩ := H.f7 (hall 7 (by decide))
    obtain ⟨bk, rfl, hbk, hBK⟩ := H.f4 (hall 4 (by decide))
    obtain rfl := H.f1 (hall 1 (by decide))
    obtain rfl := H.f2 (hall 2 (by decide))
    have B1 := H.b
    have bw := B3.out.size
    have MM := hid (MN.start (B := w.heap.size) (w := wr) (nc := 3) (nt := n) (cv := (fun i => [Value.slice A1 (lenterCode n).length c1, (.slice A2 (lleaveCode n).length c2), .slice (some ⟨bk, 0, none⟩) work work].getD i undef)) (ks := fun i => [lenterCode n, lleaveCode n, List.replicate work ⟨0, 0, 0, 0, 0⟩].getD i []) (v := fun _ => undef) (Nat.le_trans bw hC) (Nat.le_trans bw hT) hCB hTB (fun i hi => by
      rcases (show i = 0 ∨ i = 1 ∨ i = 2 by omega) with rfl | rfl | rfl
      · show wr.ownsRow w.heap.size 71 5 (.slice A1 (lenterCode n).length c1) (lenterCode n).length ((lenterCode n).flatMap gO)
        exact own_below HC1.out B1
      · show wr.ownsRow w.heap.size 71 5 (.slice A2 (lleaveCode n).length c2) (lleaveCode n).length ((lleaveCode n).flatMap gO)
        exact own_below HC2.out B1
      · show wr.ownsRow w.heap.size 71 5 (.slice (some ⟨bk, 0, none⟩) work work) (List.replicate work (⟨0, 0, 0, 0, 0⟩ : Op5)).length ((List.replicate work (⟨0, 0, 0, 0, 0⟩ : Op5)).flatMap gO)
        rw [List.length_replicate]
        refine ⟨by rw [flatMap_len gO 5 (fun _ => rfl), List.length_replicate], .inr ⟨bk, work, _, rfl, Nat.le_trans bw hbk, hBK, Nat.le_refl _, by unfold maxLen; omega, ?_, ?_⟩⟩
        · rw [List.size_toArray, flatMap_len gO 5 (fun _ => rfl), List.length_replicate]
        · rw [List.take_of_length_le]; rw [flatMap_len gO 5 (fun _ => rfl), List.length_replicate]; omega))
    have BU := hid (show MBun w wr w.heap.size nil3 w.heap.size X Cb T 3 n (.slice AW (2 * n) cW) (List.replicate (2 * n) (0 : Int)) (fun i => [Value.slice A1 (lenterCode n).length c1, (.slice A2 (lleaveCode n).length c2), .slice (some ⟨bk, 0, none⟩) work work].getD i undef) (fun i => [lenterCode n, lleaveCode n, List.replicate work ⟨0, 0, 0, 0, 0⟩].getD i []) (fun _ => .slice none 0 0) (fun _ => []) (fun _ => []) from
      ⟨bgo B3.out B1, HG3.out.below' B1, HG3.out.below' B1, hB, by rw [HWL.out]; exact own_below HW3.out B1, MM.out⟩)
    have HAP := hid (show ∀ i, i < 3 → i ≠ 2 → ((fun i => [Value.slice A1 (lenterCode n).length c1, (.slice A2 (lleaveCode n).length c2), .slice (some ⟨bk, 0, none⟩) work work].getD i undef) i).ownBlock ≠ some bk from fun i hi h2 hb => by
      rcases (show i = 0 ∨ i = 1 by omega) with rfl | rfl
      · have h1 := (own_ge HC1.out bk hb).2; omega
      · have h1 := (own_ge HC2.out bk hb).2; omega)
    clear MM hB hCB hTB hBK hX hC hT hbk H hall B1
    go_wp2
    go_loopw [15] (fun v wx => ∃ (k : Nat), k ≤ work ∧ v = .int .i64 k ∧ Hid (MBun w wx w.heap.size nil3 w.heap.size X Cb T 3 n (.slice AW (2 * n) cW) (List.replicate (2 * n) (0 : Int)) (fun i => [Value.slice A1 (lenterCode n).length c1, (.slice A2 (lleaveCode n).length c2), .slice (some ⟨bk, 0, none⟩) work work].getD i undef) (fun i => [lenterCode n, lleaveCode n, lops k work].getD i []) (fun _ => .slice none 0 0) (fun _ => []) (fun _ => []))) (fun v _ => work - (intOf v).toNat)
    case atStart => exact ⟨0, Nat.zero_le _, rfl, (by rw [lops_zero]; exact BU)⟩
    case round =>
      clear BU
      obtain ⟨k, hkw, rfl, HX⟩ := hrel
      by_cases hk1 : k < work
      · have i1 : (k : Int) < (work : Int) := by omega
        have y1 : wr.cell? ⟨X, 1, none⟩ = some (.slice (some ⟨Cb, 0, none⟩) 3 3) := HX.out.hx.cell 1
        have y2 : wr.cell? ⟨Cb, 2, none⟩ = some (.slice (some ⟨bk, 0, none⟩) work work) := HX.out.mn.cb.cell 2
        have ho := HX.out.mn.os 2 (by decide)
        obtain ⟨bb, c8, e8, _, hcl8⟩ := own_at ho (by show 0 < (lops k work).length; rw [lops_len hkw]; omega)
        injection e8 with e8 e9 e10; injection e8 with e8; injection e8 with e8
        subst e8
        have hf : ∀ i, wr.frozen? ⟨bk, i, none⟩ = false := fun i => by
          rcases ho.2 with ⟨h0, _⟩ | ⟨g, cap, cur, hv, hb, hh, _⟩
          · cases h0
          · injection hv with hv; injection hv with hv; injection hv with hv
            subst hv
            exact Blk.frozen hh i
        have hc : ∀ j, j < 5 → ∃ u, wr.cell? ⟨bk, k * 5 + j, none⟩ = some u := fun j hj => by
          have hl : k * 5 + j < (([lenterCode n, lleaveCode n, lops k work].getD 2 []).flatMap gO).length := by
            rw [flatMap_len gO 5 (fun _ => rfl)]
            show k * 5 + j < (lops k work).length * 5
            rw [lops_len hkw]; omega
          exact ⟨_, hcl8 _ _ (List.getElem?_eq_getElem hl)⟩
        obtain ⟨u0, z0⟩ := hc 0 (by decide)
        obtain ⟨u1, z1⟩ := hc 1 (by decide)
        obtain ⟨u2, z2⟩ := hc 2 (by decide)
        obtain ⟨u3, z3⟩ := hc 3 (by decide)
        obtain ⟨u4, z4⟩ := hc 4 (by decide)
        rw [Nat.add_zero] at z0
        have g0' := hf (k * 5)
        have g1 := hf (k * 5 + 1)
        have g2 := hf (k * 5 + 2)
        have g3 := hf (k * 5 + 3)
        have g4 := hf (k * 5 + 4)
        have HN := hid (HX.out.op5 (i0 := 2) (bk := bk) (n := work) (c := work) (k := k) (by decide) rfl (lops_len hkw) HAP.out hk1 ⟨1, 0, (k : Int), 0, 0⟩)
        rw [getD3] at HN
        have HN := hid (show MBun w _ w.heap.size nil3 w.heap.size X Cb T 3 n (.slice AW (2 * n) cW) (List.replicate (2 * n) (0 : Int)) (fun i => [Value.slice A1 (lenterCode n).length c1, (.slice A2 (lleaveCode n).length c2), .slice (some ⟨bk, 0, none⟩) work work].getD i undef) (fun i => [lenterCode n, lleaveCode n, lops (k + 1) work].getD i []) _ _ _ by have h := HN.out; rw [show ([lenterCode n, lleaveCode n, lops k work].getD 2 [] : List Op5) = lops k work from rfl, lops_set hk1] at h; exact h)
        clear hf hc hcl8 ho e9 e10
        go_wp2
        go_roundw
        case rel => exact ⟨k + 1, hk1, by go_num, HN⟩
        case measure => simp [intOf]; omega
      · obtain rfl : k = work := by omega
        have i1 : ¬ (k : Int) < (k : Int) := by omega
        go_wp2
        go_loopw [16] (fun v wx => ∃ (t : Nat) (tv : Nat → Value) (av : Nat → List SV), t ≤ n ∧ v = .int .i64 t ∧ Hid (MBun w wx w.heap.size nil3 w.heap.size X Cb T 3 n (.slice AW (2 * n) cW) (List.replicate (2 * n) (0 : Int)) (fun i => [Value.slice A1 (lenterCode n).length c1, (.slice A2 (lleaveCode n).length c2), .slice (some ⟨bk, 0, none⟩) k k].getD i undef) (fun i => [lenterCode n, lleaveCode n, lops k k].getD i []) tv (lths f k t 0) av)) (fun v _ => n - (intOf v).toNat)
        case atStart => exact ⟨0, _, _, Nat.zero_le _, rfl, (by rw [lths_zero]; exact HX)⟩
        case round =>
          clear HX
          obtain ⟨work, hwk⟩ : ∃ work, work = k := ⟨_, rfl⟩
          subst hwk
          obtain ⟨t, tv, av, htn, rfl, HX⟩ := hrel
          by_cases hk4 : t < n
          · have i4 : (t : Int) < (n : Int) := by omega
            have i44 : (t : Int) < 4 := by omega
            have hft := HFF.out t hk4
            go_wp2
            go_loopw [17] (fun v wy => ∃ (i : Nat) (tv : Nat → Value) (av : Nat → List SV), i ≤ f t ∧ v = .int .i64 i ∧ Hid (MBun w wy w.heap.size nil3 w.heap.size X Cb T 3 n (.slice AW (2 * n) cW) (List.replicate (2 * n) (0 : Int)) (fun i => [Value.slice A1 (lenterCode n).length c1, (.slice A2 (lleaveCode n).length c2), .slice (some ⟨bk, 0, none⟩) work work].getD i undef) (fun i => [lenterCode n, lleaveCode n, lops work work].getD i []) tv (lths f work t i) av)) (fun v _ => f t - (intOf v).toNat)
            case atStart => exact ⟨0, tv, av, Nat.zero_le _, rfl, HX⟩
            case round =>
              clear HX
              clear tv av
              obtain ⟨i, tv, av, hio, rfl, HX⟩ := hrel
              obtain ⟨ad, x, hOA, hx, cx⟩ := (HO.out.below HX.out.below).ati (k := t) (by omega)
              have hx2 : x = (f t : Int) := by rw [List.getElem?_map, List.getElem?_range (by omega)] at hx; injection hx with hx; exact hx.symm
              rw [hx2] at cx
              obtain ⟨F, hF⟩ : ∃ F, f t = F := ⟨_, rfl⟩
              rw [hF] at cx hio
              have HFT := hid hF
              have hF6 : F ≤ 6 := by omega
              clear hx hx2 hF hft
              subst hOA
              by_cases hi : i < F
              · have i5 : (i : Int) < (F : Int) := by omega
                have HL15 := hid (show ((lths f work t i) t).length ≤ 15 by unfold lths; rw [if_neg (Nat.lt_irrefl _), if_pos rfl]; have := lcalls_len work t i; omega)
                have HLNa := hid (show ((lths f work t i) t).length ≤ 18 by have := HL15.out; omega)
                rw [HFT.out] at *
                go_upto_region 17 with fail
                clear cx
                have HOFa := hid (show ∀ (k' : Nat) (c : VCall) (a : SV), ([⟨0, [(t : Int)]⟩] : List VCall)[k']? = some c → ([⟨some ⟨wr.heap.size, 0, none⟩, 1, 1⟩] : List SV)[k']? = some a → (((wr.alloc (.cells #[.int .i64 (t : Int)] 3)).alloc (.cells #[.int .i64 0, .slice (some ⟨wr.heap.size, 0, none⟩) 1 1] 53)).drew).ownsRow w.heap.size 3 1 a.v c.args.length (c.args.flatMap gI) from fun k' c a hc ha => by
                  rw [List.getElem?_singleton] at hc ha
                  split at hc
                  · rename_i h; rw [if_pos h] at ha
                    injection hc with hc; injection ha with ha
                    subst hc ha
                    exact own_below (own_fresh wr #[.int .i64 (t : Int)] 3 1 1 _ _ rfl HX.out.below.size rfl (by simp [maxLen])) (bnew (bnil _) _).drew
                  · cases hc)
                obtain ⟨Aj, cj, hAj, HR0⟩ := HX.out.row hk4
                obtain ⟨L, hL⟩ : ∃ L, ((lths f work t i) t).length = L := ⟨_, rfl⟩
                rw [hL] at hAj HR0
                have hL18 : L ≤ 18 := by rw [← hL]; exact HLNa.out
                obtain ⟨y, hy⟩ : ∃ y, ((lths f work t i) t).zip (av t) ++ [((⟨0, [(t : Int)]⟩ : VCall), (⟨some ⟨wr.heap.size, 0, none⟩, 1, 1⟩ : SV))] = y := ⟨_, rfl⟩
                have HYE := hid hy
                have HYL := hid (show y.length = L + 1 by rw [← hy, List.length_append, HR0.len]; rfl)
                have HR := hid HR0
                have HAJ := hid hAj
                have c2x := HR.out.c2; have c3 := HR.out.c3; have f3 := HR.out.f3; have hcj := HR.out.hcj; have hcm := HR.out.hcm
                unfold maxLen at hcm
                clear hy HR0 hAj hL
                have ltT := World.block_lt_of_cell? wr _ c3
                have ltX := World.block_lt_of_cell? wr _ c2x
                go_cut [] from 81 to 130 (fun wx => ∃ (tv2 : Nat → Value) (av2 : Nat → List SV), Hid (MBun w wx w.heap.size nil3 w.heap.size X Cb T 3 n (.slice AW (2 * n) cW) (List.replicate (2 * n) (0 : Int)) (fun i => [Value.slice A1 (lenterCode n).length c1, (.slice A2 (lleaveCode n).length c2), .slice (some ⟨bk, 0, none⟩) work work].getD i undef) (fun i => [lenterCode n, lleaveCode n, lops work work].getD i []) tv2 (upd ((lths f work t i)) t (((lths f work t i)) t ++ [⟨0, [(t : Int)]⟩])) av2))
                case first =>
                  refine wp_region_held_drew (S := (fun w' => w'.cell? ⟨X, 2, none⟩ = some (.slice (some ⟨T, 0, none⟩) n n) ∧ w'.frozen? ⟨T, t, none⟩ = false)) (by kernel_rfl) ?_ (fun hHeld => ?_)
                  · (try dsimp only); (first | assumption | exact ⟨c2x, f3⟩ | exact HZ.1 | exact HZ.2.2 _ | (refine sees2f ?_ c2x c3 f3; (repeat (first | exact bnil _ | refine Below.drew ?_ | refine bnew ?_ _))))
                  refine wpAnyH_take (i := 0) (oi := ⟨some 89, _, _, _, _, _⟩) (v := ?_) rfl (by kernel_rfl) (by kernel_rfl) (by kernel_rfl) (fun _ _ _ h => h) (Or.inl ⟨by rfl, ?_⟩) (by assumption) ?_
                  rotate_left
                  · intro w hSw; (try dsimp only at hSw); go_simp <;> with_reducible rfl
                  try simp only [Act.put, List.setIfInBounds_toArray, List.set_cons_zero, List.set_cons_succ]
                  refine wpAnyH_take (i := 1) (oi := ⟨some 90, _, _, _, _, _⟩) (v := ?_) rfl (by kernel_rfl) (by kernel_rfl) (by kernel_rfl) (fun _ _ _ h => h) (Or.inl ⟨by rfl, ?_⟩) (by assumption) ?_
                  rotate_left
                  · intro w hSw; (try dsimp only at hSw); go_simp <;> with_reducible rfl
                  try simp only [Act.put, List.setIfInBounds_toArray, List.set_cons_zero, List.set_cons_succ]
                  refine wpAnyH_take (i := 2) (oi := ⟨some 91, _, _, _, _, _⟩) (v := ?_) rfl (by kernel_rfl) (by kernel_rfl) (by kernel_rfl) (fun _ _ _ h => h) (Or.inl ⟨by rfl, ?_⟩) (by assumption) ?_
                  rotate_left
                  · intro w hSw; (try dsimp only at hSw); go_simp <;> with_reducible rfl
                  try simp only [Act.put, List.setIfInBounds_toArray, List.set_cons_zero, List.set_cons_succ]
                  refine wpAnyH_take (i := 3) (oi := ⟨some 92, _, _, _, _, _⟩) (v := ?_) rfl (by kernel_rfl) (by kernel_rfl) (by kernel_rfl) (fun _ _ _ h => h) (Or.inl ⟨by rfl, ?_⟩) (by assumption) ?_
                  rotate_left
                  · intro w hSw; (try dsimp only at hSw); go_simp <;> with_reducible rfl
                  try simp only [Act.put, List.setIfInBounds_toArray, List.set_cons_zero, List.set_cons_succ]
                  refine wpAnyH_take (i := 4) (oi := ⟨some 93, _, _, _, _, _⟩) (v := ?_) rfl (by kernel_rfl) (by kernel_rfl) (by kernel_rfl) (fun _ _ _ h => h) (Or.inl ⟨by rfl, ?_⟩) (by assumption) ?_
                  rotate_left
                  · intro w hSw; (try dsimp only at hSw); go_simp <;> with_reducible rfl
                  try simp only [Act.put, List.setIfInBounds_toArray, List.set_cons_zero, List.set_cons_succ]
                  refine wpAnyH_take (i := 5) (oi := ⟨some 94, _, _, _, _, _⟩) (v := ?_) rfl (by kernel_rfl) (by kernel_rfl) (by kernel_rfl) (fun _ _ _ h => h) (Or.inl ⟨by rfl, ?_⟩) (by assumption) ?_
                  rotate_left
                  · intro w hSw; (try dsimp only at hSw); go_simp <;> with_reducible rfl
                  try simp only [Act.put, List.setIfInBounds_toArray, List.set_cons_zero, List.set_cons_succ]
                  refine wpAnyH_take (i := 6) (oi := ⟨some 95, _, _, _, _, _⟩) (v := ?_) rfl (by kernel_rfl) (by kernel_rfl) (by kernel_rfl) (fun _ _ _ h => h) (Or.inl ⟨by rfl, ?_⟩) (by assumption) ?_
                  rotate_left
                  · intro w hSw; (try dsimp only at hSw); go_simp <;> with_reducible rfl
                  try simp only [Act.put, List.setIfInBounds_toArray, List.set_cons_zero, List.set_cons_succ]
                  refine wpAnyH_take (i := 8) (oi := ⟨some 97, _, _, _, _, _⟩) (v := ?_) rfl (by kernel_rfl) (by kernel_rfl) (by kernel_rfl) (fun _ _ _ h => h) (Or.inl ⟨by rfl, ?_⟩) (by assumption) ?_
                  rotate_left
                  · intro w hSw; (try dsimp only at hSw); go_simp <;> with_reducible rfl
                  try simp only [Act.put, List.setIfInBounds_toArray, List.set_cons_zero, List.set_cons_succ]
                  refine wpAnyH_ready (rs := [7, 9]) (by kernel_rfl) (by simp) ?_
                  refine AllReadyH.cons (o := ⟨some 96, _, _, _, _, _⟩) rfl (fun K hK => ?_) ?_
                  go_simp
                  refine hK.out _ _ ?_ (fun hHeld => ?_)
                  · (try dsimp only); (first | assumption | exact ⟨c2x, f3⟩ | exact HZ.1 | exact HZ.2.2 _ | (refine sees2f ?_ c2x c3 f3; (repeat (first | exact bnil _ | refine Below.drew ?_ | refine bnew ?_ _))))
                  clear hK K
                  try simp only [Act.put, List.setIfInBounds_toArray, List.set_cons_zero, List.set_cons_succ]
                  refine wpAnyH_ready (rs := [9]) (by kernel_rfl) (by simp) ?_
                  refine AllReadyH.cons (o := ⟨some 98, _, _, _, _, _⟩) rfl (fun K hK => ?_) AllReadyH.nil
                  go_simp
                  refine hK.out _ _ ?_ (fun hHeld => ?_)
                  · (try dsimp only); (first | assumption | exact ⟨c2x, f3⟩ | exact HZ.1 | exact HZ.2.2 _ | (refine sees2f ?_ c2x c3 f3; (repeat (first | exact bnil _ | refine Below.drew ?_ | refine bnew ?_ _))))
                  clear hK K
                  try simp only [Act.put, List.setIfInBounds_toArray, List.set_cons_zero, List.set_cons_succ]
                  refine wpAnyH_take (i := 10) (oi := ⟨some 99, _, _, _, _, _⟩) (v := ?_) rfl (by kernel_rfl) (by kernel_rfl) (by kernel_rfl) (fun _ _ _ h => h) (Or.inl ⟨by rfl, ?_⟩) (by assumption) ?_
                  rotate_left
                  · intro w hSw; (try dsimp only at hSw); go_simp <;> with_reducible rfl
                  try simp only [Act.put, List.setIfInBounds_toArray, List.set_cons_zero, List.set_cons_succ]
                  refine wpAnyH_ready (rs := [11]) (by kernel_rfl) (by simp) ?_
                  refine AllReadyH.cons (o := ⟨some 100, _, _, _, _, _⟩) rfl (fun K hK => ?_) AllReadyH.nil
                  go_simp
                  refine hK.out _ _ ?_ (fun hHeld => ?_)
                  · (try dsimp only); (first | assumption | exact ⟨c2x, f3⟩ | exact HZ.1 | exact HZ.2.2 _ | (refine sees2f ?_ c2x c3 f3; (repeat (first | exact bnil _ | refine Below.drew ?_ | refine bnew ?_ _))))
                  clear hK K
                  try simp only [Act.put, List.setIfInBounds_toArray, List.set_cons_zero, List.set_cons_succ]
                  refine wpAnyH_ready (rs := [12]) (by kernel_rfl) (by simp) ?_
                  refine AllReadyH.cons (o := ⟨some 101, _, _, _, _, _⟩) rfl (fun K hK => ?_) AllReadyH.nil
                  (refine step_appC elmCN gS_one rfl (.tmp 96) (.tmp 100) rfl (.slice Aj L cj) (((lths f work t i) t).zip (av t)) rfl (HR.out.row _ (bnew (bnew (bnil _) _) _).drew) [((⟨0, [(t : Int)]⟩ : VCall), (⟨some ⟨wr.heap.size, 0, none⟩, 1, 1⟩ : SV))] y HYE rfl (Sl.drew (Sl.fresh' _ #[_, _] 53 2 1 _ (by simp) rfl)) rfl (by rw [HYL.out]; simp only [maxLen]; omega) (by rw [HYL.out]; omega) (Nat.le_trans HR.out.size (bnew (bnew (bnil _) _) _).drew.size) ?_; intro E6 c6 w6 hc6 hc7 HN6 HG6 HO6; have HZ := HR.out.grow _ w6 (bnew (bnew (bnil _) _) _).drew HG6.out)
                  refine hK.out _ _ ?_ (fun hHeld => ?_)
                  · (try dsimp only); (first | assumption | exact ⟨c2x, f3⟩ | exact HZ.1 | exact HZ.2.2 _ | (refine sees2f ?_ c2x c3 f3; (repeat (first | exact bnil _ | refine Below.drew ?_ | refine bnew ?_ _))))
                  clear hK K
                  try simp only [Act.put, List.setIfInBounds_toArray, List.set_cons_zero, List.set_cons_succ]
                  refine wpAnyH_take (i := 13) (oi := ⟨some 102, _, _, _, _, _⟩) (v := ?_) rfl (by kernel_rfl) (by kernel_rfl) (by kernel_rfl) (fun _ _ _ h => h) (Or.inl ⟨by rfl, ?_⟩) (by assumption) ?_
                  rotate_left
                  · intro w hSw; (try dsimp only at hSw); go_simp <;> with_reducible rfl
                  try simp only [Act.put, List.setIfInBounds_toArray, List.set_cons_zero, List.set_cons_succ]
                  refine wpAnyH_ready (rs := [14]) (by kernel_rfl) (by simp) ?_
                  refine AllReadyH.cons (o := ⟨none, _, _, _, _, _⟩) rfl (fun K hK => ?_) AllReadyH.nil
                  go_simp
                  refine hK.out _ _ ?_ (fun hHeld => ?_)
                  · (try dsimp only); (first | assumption | exact ⟨c2x, f3⟩ | exact HZ.1 | exact HZ.2.2 _ | (refine sees2f ?_ c2x c3 f3; (repeat (first | exact bnil _ | refine Below.drew ?_ | refine bnew ?_ _))))
                  clear hK K
                  try dsimp only [Act.put]
                  refine wpAnyH_done (by kernel_rfl) ?_ _
                  rotate_left
                  refine AllReadyH.cons (o := ⟨some 98, _, _, _, _, _⟩) rfl (fun K hK => ?_) AllReadyH.nil
                  go_simp
                  refine hK.out _ _ ?_ (fun hHeld => ?_)
                  · (try dsimp only); (first | assumption | exact ⟨c2x, f3⟩ | exact HZ.1 | exact HZ.2.2 _ | (refine sees2f ?_ c2x c3 f3; (repeat (first | exact bnil _ | refine Below.drew ?_ | refine bnew ?_ _))))
                  clear hK K
                  try simp only [Act.put, List.setIfInBounds_toArray, List.set_cons_zero, List.set_cons_succ]
                  refine wpAnyH_take (i := 10) (oi := ⟨some 99, _, _, _, _, _⟩) (v := ?_) rfl (by kernel_rfl) (by kernel_rfl) (by kernel_rfl) (fun _ _ _ h => h) (Or.inl ⟨by rfl, ?_⟩) (by assumption) ?_
                  rotate_left
                  · intro w hSw; (try dsimp only at hSw); go_simp <;> with_reducible rfl
                  try simp only [Act.put, List.setIfInBounds_toArray, List.set_cons_zero, List.set_cons_succ]
                  refine wpAnyH_ready (rs := [7, 11]) (by kernel_rfl) (by simp) ?_
                  refine AllReadyH.cons (o := ⟨some 96, _, _, _, _, _⟩) rfl (fun K hK => ?_) ?_
                  go_simp
                  refine hK.out _ _ ?_ (fun hHeld => ?_)
                  · (try dsimp only); (first | assumption | exact ⟨c2x, f3⟩ | exact HZ.1 | exact HZ.2.2 _ | (refine sees2f ?_ c2x c3 f3; (repeat (first | exact bnil _ | refine Below.drew ?_ | refine bnew ?_ _))))
                  clear hK K
                  try simp only [Act.put, List.setIfInBounds_toArray, List.set_cons_zero, List.set_cons_succ]
                  refine wpAnyH_ready (rs := [11]) (by kernel_rfl) (by simp) ?_
                  refine AllReadyH.cons (o := ⟨some 100, _, _, _, _, _⟩) rfl (fun K hK => ?_) AllReadyH.nil
                  go_simp
                  refine hK.out _ _ ?_ (fun hHeld => ?_)
                  · (try dsimp only); (first | assumption | exact ⟨c2x, f3⟩ | exact HZ.1 | exact HZ.2.2 _ | (refine sees2f ?_ c2x c3 f3; (repeat (first | exact bnil _ | refine Below.drew ?_ | refine bnew ?_ _))))
                  clear hK K
                  try simp only [Act.put, List.setIfInBounds_toArray, List.set_cons_zero, List.set_cons_succ]
                  refine wpAnyH_ready (rs := [12]) (by kernel_rfl) (by simp) ?_
                  refine AllReadyH.cons (o := ⟨some 101, _, _, _, _, _⟩) rfl (fun K hK => ?_) AllReadyH.nil
                  (refine step_appC elmCN gS_one rfl (.tmp 96) (.tmp 100) rfl (.slice Aj L cj) (((lths f work t i) t).zip (av t)) rfl (HR.out.row _ (bnew (bnew (bnil _) _) _).drew) [((⟨0, [(t : Int)]⟩ : VCall), (⟨some ⟨wr.heap.size, 0, none⟩, 1, 1⟩ : SV))] y HYE rfl (Sl.drew (Sl.fresh' _ #[_, _] 53 2 1 _ (by simp) rfl)) rfl (by rw [HYL.out]; simp only [maxLen]; omega) (by rw [HYL.out]; omega) (Nat.le_trans HR.out.size (bnew (bnew (bnil _) _) _).drew.size) ?_; intro E6 c6 w6 hc6 hc7 HN6 HG6 HO6; have HZ := HR.out.grow _ w6 (bnew (bnew (bnil _) _) _).drew HG6.out)
                  refine hK.out _ _ ?_ (fun hHeld => ?_)
                  · (try dsimp only); (first | assumption | exact ⟨c2x, f3⟩ | exact HZ.1 | exact HZ.2.2 _ | (refine sees2f ?_ c2x c3 f3; (repeat (first | exact bnil _ | refine Below.drew ?_ | refine bnew ?_ _))))
                  clear hK K
                  try simp only [Act.put, List.setIfInBounds_toArray, List.set_cons_zero, List.set_cons_succ]
                  refine wpAnyH_take (i := 13) (oi := ⟨some 102, _, _, _, _, _⟩) (v := ?_) rfl (by kernel_rfl) (by kernel_rfl) (by kernel_rfl) (fun _ _ _ h => h) (Or.inl ⟨by rfl, ?_⟩) (by assumption) ?_
                  rotate_left
                  · intro w hSw; (try dsimp only at hSw); go_simp <;> with_reducible rfl
                  try simp only [Act.put, List.setIfInBounds_toArray, List.set_cons_zero, List.set_cons_succ]
                  refine wpAnyH_ready (rs := [14]) (by kernel_rfl) (by simp) ?_
                  refine AllReadyH.cons (o := ⟨none, _, _, _, _, _⟩) rfl (fun K hK => ?_) AllReadyH.nil
                  go_simp
                  refine hK.out _ _ ?_ (fun hHeld => ?_)
                  · (try dsimp only); (first | assumption | exact ⟨c2x, f3⟩ | exact HZ.1 | exact HZ.2.2 _ | (refine sees2f ?_ c2x c3 f3; (repeat (first | exact bnil _ | refine Below.drew ?_ | refine bnew ?_ _))))
                  clear hK K
                  try dsimp only [Act.put]
                  refine wpAnyH_done (by kernel_rfl) ?_ _
                  rotate_left
                  refine AllReadyH.cons (o := ⟨some 100, _, _, _, _, _⟩) rfl (fun K hK => ?_) AllReadyH.nil
                  go_simp
                  refine hK.out _ _ ?_ (fun hHeld => ?_)
                  · (try dsimp only); (first | assumption | exact ⟨c2x, f3⟩ | exact HZ.1 | exact HZ.2.2 _ | (refine sees2f ?_ c2x c3 f3; (repeat (first | exact bnil _ | refine Below.drew ?_ | refine bnew ?_ _))))
                  clear hK K
                  try simp only [Act.put, List.setIfInBounds_toArray, List.set_cons_zero, List.set_cons_succ]
                  refine wpAnyH_ready (rs := [7]) (by kernel_rfl) (by simp) ?_
                  refine AllReadyH.cons (o := ⟨some 96, _, _, _, _, _⟩) rfl (fun K hK => ?_) AllReadyH.nil
                  go_simp
                  refine hK.out _ _ ?_ (fun hHeld => ?_)
                  · (try dsimp only); (first | assumption | exact ⟨c2x, f3⟩ | exact HZ.1 | exact HZ.2.2 _ | (refine sees2f ?_ c2x c3 f3; (repeat (first | exact bnil _ | refine Below.drew ?_ | refine bnew ?_ _))))
                  clear hK K
                  try simp only [Act.put, List.setIfInBounds_toArray, List.set_cons_zero, List.set_cons_succ]
                  refine wpAnyH_ready (rs := [12]) (by kernel_rfl) (by simp) ?_
                  refine AllReadyH.cons (o := ⟨some 101, _, _, _, _, _⟩) rfl (fun K hK => ?_) AllReadyH.nil
                  (refine step_appC elmCN gS_one rfl (.tmp 96) (.tmp 100) rfl (.slice Aj L cj) (((lths f work t i) t).zip (av t)) rfl (HR.out.row _ (bnew (bnew (bnil _) _) _).drew) [((⟨0, [(t : Int)]⟩ : VCall), (⟨some ⟨wr.heap.size, 0, none⟩, 1, 1⟩ : SV))] y HYE rfl (Sl.drew (Sl.fresh' _ #[_, _] 53 2 1 _ (by simp) rfl)) rfl (by rw [HYL.out]; simp only [maxLen]; omega) (by rw [HYL.out]; omega) (Nat.le_trans HR.out.size (bnew (bnew (bnil _) _) _).drew.size) ?_; intro E6 c6 w6 hc6 hc7 HN6 HG6 HO6; have HZ := HR.out.grow _ w6 (bnew (bnew (bnil _) _) _).drew HG6.out)
                  refine hK.out _ _ ?_ (fun hHeld => ?_)
                  · (try dsimp only); (first | assumption | exact ⟨c2x, f3⟩ | exact HZ.1 | exact HZ.2.2 _ | (refine sees2f ?_ c2x c3 f3; (repeat (first | exact bnil _ | refine Below.drew ?_ | refine bnew ?_ _))))
                  clear hK K
                  try simp only [Act.put, List.setIfInBounds_toArray, List.set_cons_zero, List.set_cons_succ]
                  refine wpAnyH_take (i := 13) (oi := ⟨some 102, _, _, _, _, _⟩) (v := ?_) rfl (by kernel_rfl) (by kernel_rfl) (by kernel_rfl) (fun _ _ _ h => h) (Or.inl ⟨by rfl, ?_⟩) (by assumption) ?_
                  rotate_left
                  · intro w hSw; (try dsimp only at hSw); go_simp <;> with_reducible rfl
                  try simp only [Act.put, List.setIfInBounds_toArray, List.set_cons_zero, List.set_cons_succ]
                  refine wpAnyH_ready (rs := [14]) (by kernel_rfl) (by simp) ?_
                  refine AllReadyH.cons (o := ⟨none, _, _, _, _, _⟩) rfl (fun K hK => ?_) AllReadyH.nil
                  go_simp
                  refine hK.out _ _ ?_ (fun hHeld => ?_)
                  · (try dsimp only); (first | assumption | exact ⟨c2x, f3⟩ | exact HZ.1 | exact HZ.2.2 _ | (refine sees2f ?_ c2x c3 f3; (repeat (first | exact bnil _ | refine Below.drew ?_ | refine bnew ?_ _))))
                  clear hK K
                  try dsimp only [Act.put]
                  refine wpAnyH_done (by kernel_rfl) ?_ _
                  rotate_left
                  all_goals
                    have HF := hid (HX.out.app hk4 [⟨0, [(t : Int)]⟩] [⟨some ⟨wr.heap.size, 0, none⟩, 1, 1⟩] (bnew (bnew (bnil _) _) _).drew rfl (HOFa.out) HYE.out (by rw [HAJ.out]; exact HG6.out) (by rw [HAJ.out]; exact HO6.out) HN6.out)
                    clear HZ HG6 HO6 HN6
                    go_wp2
                    go_meet
                    exact ⟨_, _, HF⟩
                case rest =>
                  obtain ⟨tva2, ava2, HXa2⟩ := hcut
                  obtain ⟨wa2, hwa2⟩ : ∃ w2, w2 = wc := ⟨_, rfl⟩
                  subst hwa2
                  clear HR HAJ c2x c3 f3 hcj hcm ltT ltX HYE HYL y Aj cj hL18 L
                  obtain ⟨th1, hth1⟩ : ∃ th1, upd (lths f work t i) t ((lths f work t i) t ++ [⟨0, [(t : Int)]⟩]) = th1 := ⟨_, rfl⟩
                  rw [hth1] at HXa2
                  have HLNb := hid (show (th1 t).length ≤ 18 by rw [← hth1, upd_same]; simp only [List.length_append, List.length_singleton]; have := HL15.out; omega)
                  have HTH1 := hid hth1
                  clear hth1
                  by_cases hw0 : 0 < work
                  · have iw0 : (0 : Int) < (work : Int) := by omega
                    go_upto_region 19 with fail
                    obtain ⟨Aj, cj, hAj, HR0⟩ := HXa2.out.row hk4
                    obtain ⟨L, hL⟩ : ∃ L, (th1 t).length = L := ⟨_, rfl⟩
                    rw [hL] at hAj HR0
                    have hL18 : L ≤ 18 := by rw [← hL]; exact HLNb.out
                    obtain ⟨y, hy⟩ : ∃ y, (th1 t).zip (ava2 t) ++ [((⟨2, []⟩ : VCall), (⟨none, 0, 0⟩ : SV))] = y := ⟨_, rfl⟩
                    have HYE := hid hy
                    have HYL := hid (show y.length = L + 1 by rw [← hy, List.length_append, HR0.len]; rfl)
                    have HR := hid HR0
                    have HAJ := hid hAj
                    have c2x := HR.out.c2; have c3 := HR.out.c3; have f3 := HR.out.f3; have hcj := HR.out.hcj; have hcm := HR.out.hcm
                    unfold maxLen at hcm
                    clear hy HR0 hAj hL
                    have ltT := World.block_lt_of_cell? wa2 _ c3
                    have ltX := World.block_lt_of_cell? wa2 _ c2x
                    go_cut [] from 81 to 130 (fun wx => ∃ (tv2 : Nat → Value) (av2 : Nat → List SV), Hid (MBun w wx w.heap.size nil3 w.heap.size X Cb T 3 n (.slice AW (2 * n) cW) (List.replicate (2 * n) (0 : Int)) (fun i => [Value.slice A1 (lenterCode n).length c1, (.slice A2 (lleaveCode n).length c2), .slice (some ⟨bk, 0, none⟩) work work].getD i undef) (fun i => [lenterCode n, lleaveCode n, lops work work].getD i []) tv2 (upd (th1) t ((th1) t ++ [⟨2, []⟩])) av2))
                    case first =>
                      refine wp_region_held_drew (S := (fun w' => w'.cell? ⟨X, 2, none⟩ = some (.slice (some ⟨T, 0, none⟩) n n) ∧ w'.frozen? ⟨T, t, none⟩ = false)) (by kernel_rfl) ?_ (fun hHeld => ?_)
                      · (try dsimp only); (first | assumption | exact ⟨c2x, f3⟩ | exact HZ.1 | exact HZ.2.2 _ | (refine sees2f ?_ c2x c3 f3; (repeat (first | exact bnil _ | refine Below.drew ?_ | refine bnew ?_ _))))
                      refine wpAnyH_take (i := 0) (oi := ⟨some 105, _, _, _, _, _⟩) (v := ?_) rfl (by kernel_rfl) (by kernel_rfl) (by kernel_rfl) (fun _ _ _ h => h) (Or.inl ⟨by rfl, ?_⟩) (by assumption) ?_
                      rotate_left
                      · intro w hSw; (try dsimp only at hSw); go_simp <;> with_reducible rfl
                      try simp only [Act.put, List.setIfInBounds_toArray, List.set_cons_zero, List.set_cons_succ]
                      refine wpAnyH_take (i := 1) (oi := ⟨some 106, _, _, _, _, _⟩) (v := ?_) rfl (by kernel_rfl) (by kernel_rfl) (by kernel_rfl) (fun _ _ _ h => h) (Or.inl ⟨by rfl, ?_⟩) (by assumption) ?_
                      rotate_left
                      · intro w hSw; (try dsimp only at hSw); go_simp <;> with_reducible rfl
                      try simp only [Act.put, List.setIfInBounds_toArray, List.set_cons_zero, List.set_cons_succ]
                      refine wpAnyH_take (i := 2) (oi := ⟨some 107, _, _, _, _, _⟩) (v := ?_) rfl (by kernel_rfl) (by kernel_rfl) (by kernel_rfl) (fun _ _ _ h => h) (Or.inl ⟨by rfl, ?_⟩) (by assumption) ?_
                      rotate_left
                      · intro w hSw; (try dsimp only at hSw); go_simp <;> with_reducible rfl
                      try simp only [Act.put, List.setIfInBounds_toArray, List.set_cons_zero, List.set_cons_succ]
                      refine wpAnyH_take (i := 3) (oi := ⟨some 108, _, _, _, _, _⟩) (v := ?_) rfl (by kernel_rfl) (by kernel_rfl) (by kernel_rfl) (fun _ _ _ h => h) (Or.inl ⟨by rfl, ?_⟩) (by assumption) ?_
                      rotate_left
                      · intro w hSw; (try dsimp only at hSw); go_simp <;> with_reducible rfl
                      try simp only [Act.put, List.setIfInBounds_toArray, List.set_cons_zero, List.set_cons_succ]
                      refine wpAnyH_take (i := 4) (oi := ⟨some 109, _, _, _, _, _⟩) (v := ?_) rfl (by kernel_rfl) (by kernel_rfl) (by kernel_rfl) (fun _ _ _ h => h) (Or.inl ⟨by rfl, ?_⟩) (by assumption) ?_
                      rotate_left
                      · intro w hSw; (try dsimp only at hSw); go_simp <;> with_reducible rfl
                      try simp only [Act.put, List.setIfInBounds_toArray, List.set_cons_zero, List.set_cons_succ]
                      refine wpAnyH_take (i := 5) (oi := ⟨some 110, _, _, _, _, _⟩) (v := ?_) rfl (by kernel_rfl) (by kernel_rfl) (by kernel_rfl) (fun _ _ _ h => h) (Or.inl ⟨by rfl, ?_⟩) (by assumption) ?_
                      rotate_left
                      · intro w hSw; (try dsimp only at hSw); go_simp <;> with_reducible rfl
                      try simp only [Act.put, List.setIfInBounds_toArray, List.set_cons_zero, List.set_cons_succ]
                      refine wpAnyH_take (i := 6) (oi := ⟨some 111, _, _, _, _, _⟩) (v := ?_) rfl (by kernel_rfl) (by kernel_rfl) (by kernel_rfl) (fun _ _ _ h => h) (Or.inl ⟨by rfl, ?_⟩) (by assumption) ?_
                      rotate_left
                      · intro w hSw; (try dsimp only at hSw); go_simp <;> with_reducible rfl
                      try simp only [Act.put, List.setIfInBounds_toArray, List.set_cons_zero, List.set_cons_succ]
                      refine wpAnyH_take (i := 8) (oi := ⟨some 113, _, _, _, _, _⟩) (v := ?_) rfl (by kernel_rfl) (by kernel_rfl) (by kernel_rfl) (fun _ _ _ h => h) (Or.inl ⟨by rfl, ?_⟩) (by assumption) ?_
                      rotate_left
                      · intro w hSw; (try dsimp only at hSw); go_simp <;> with_reducible rfl
                      try simp only [Act.put, List.setIfInBounds_toArray, List.set_cons_zero, List.set_cons_succ]
                      refine wpAnyH_ready (rs := [7, 9]) (by kernel_rfl) (by simp) ?_
                      refine AllReadyH.cons (o := ⟨some 112, _, _, _, _, _⟩) rfl (fun K hK => ?_) ?_
                      go_simp
                      refine hK.out _ _ ?_ (fun hHeld => ?_)
                      · (try dsimp only); (first | assumption | exact ⟨c2x, f3⟩ | exact HZ.1 | exact HZ.2.2 _ | (refine sees2f ?_ c2x c3 f3; (repeat (first | exact bnil _ | refine Below.drew ?_ | refine bnew ?_ _))))
                      clear hK K
                      try simp only [Act.put, List.setIfInBounds_toArray, List.set_cons_zero, List.set_cons_succ]
                      refine wpAnyH_ready (rs := [9]) (by kernel_rfl) (by simp) ?_
                      refine AllReadyH.cons (o := ⟨some 114, _, _, _, _, _⟩) rfl (fun K hK => ?_) AllReadyH.nil
                      go_simp
                      refine hK.out _ _ ?_ (fun hHeld => ?_)
                      · (try dsimp only); (first | assumption | exact ⟨c2x, f3⟩ | exact HZ.1 | exact HZ.2.2 _ | (refine sees2f ?_ c2x c3 f3; (repeat (first | exact bnil _ | refine Below.drew ?_ | refine bnew ?_ _))))
                      clear hK K
                      try simp only [Act.put, List.setIfInBounds_toArray, List.set_cons_zero, List.set_cons_succ]
                      refine wpAnyH_ready (rs := [10]) (by kernel_rfl) (by simp) ?_
                      refine AllReadyH.cons (o := ⟨some 115, _, _, _, _, _⟩) rfl (fun K hK => ?_) AllReadyH.nil
                      (refine step_appC elmCN gS_one rfl (.tmp 112) (.tmp 114) rfl (.slice Aj L cj) ((th1 t).zip (ava2 t)) rfl (HR.out.row _ (bnew (bnil _) _).drew) [((⟨2, []⟩ : VCall), (⟨none, 0, 0⟩ : SV))] y HYE rfl (Sl.drew (Sl.fresh' _ #[_, _] 53 2 1 _ (by simp) rfl)) rfl (by rw [HYL.out]; simp only [maxLen]; omega) (by rw [HYL.out]; omega) (Nat.le_trans HR.out.size (bnew (bnil _) _).drew.size) ?_; intro E6 c6 w6 hc6 hc7 HN6 HG6 HO6; have HZ := HR.out.grow _ w6 (bnew (bnil _) _).drew HG6.out)
                      refine hK.out _ _ ?_ (fun hHeld => ?_)
                      · (try dsimp only); (first | assumption | exact ⟨c2x, f3⟩ | exact HZ.1 | exact HZ.2.2 _ | (refine sees2f ?_ c2x c3 f3; (repeat (first | exact bnil _ | refine Below.drew ?_ | refine bnew ?_ _))))
                      clear hK K
                      try simp only [Act.put, List.setIfInBounds_toArray, List.set_cons_zero, List.set_cons_succ]
                      refine wpAnyH_take (i := 11) (oi := ⟨some 116, _, _, _, _, _⟩) (v := ?_) rfl (by kernel_rfl) (by kernel_rfl) (by kernel_rfl) (fun _ _ _ h => h) (Or.inl ⟨by rfl, ?_⟩) (by assumption) ?_
                      rotate_left
                      · intro w hSw; (try dsimp only at hSw); go_simp <;> with_reducible rfl
                      try simp only [Act.put, List.setIfInBounds_toArray, List.set_cons_zero, List.set_cons_succ]
                      refine wpAnyH_ready (rs := [12]) (by kernel_rfl) (by simp) ?_
                      refine AllReadyH.cons (o := ⟨none, _, _, _, _, _⟩) rfl (fun K hK => ?_) AllReadyH.nil
                      go_simp
                      refine hK.out _ _ ?_ (fun hHeld => ?_)
                      · (try dsimp only); (first | assumption | exact ⟨c2x, f3⟩ | exact HZ.1 | exact HZ.2.2 _ | (refine sees2f ?_ c2x c3 f3; (repeat (first | exact bnil _ | refine Below.drew ?_ | refine bnew ?_ _))))
                      clear hK K
                      try dsimp only [Act.put]
                      refine wpAnyH_done (by kernel_rfl) ?_ _
                      rotate_left
                      refine AllReadyH.cons (o := ⟨some 114, _, _, _, _, _⟩) rfl (fun K hK => ?_) AllReadyH.nil
                      go_simp
                      refine hK.out _ _ ?_ (fun hHeld => ?_)
                      · (try dsimp only); (first | assumption | exact ⟨c2x, f3⟩ | exact HZ.1 | exact HZ.2.2 _ | (refine sees2f ?_ c2x c3 f3; (repeat (first | exact bnil _ | refine Below.drew ?_ | refine bnew ?_ _))))
                      clear hK K
                      try simp only [Act.put, List.setIfInBounds_toArray, List.set_cons_zero, List.set_cons_succ]
                      refine wpAnyH_ready (rs := [7]) (by kernel_rfl) (by simp) ?_
                      refine AllReadyH.cons (o := ⟨some 112, _, _, _, _, _⟩) rfl (fun K hK => ?_) AllReadyH.nil
                      go_simp
                      refine hK.out _ _ ?_ (fun hHeld => ?_)
                      · (try dsimp only); (first | assumption | exact ⟨c2x, f3⟩ | exact HZ.1 | exact HZ.2.2 _ | (refine sees2f ?_ c2x c3 f3; (repeat (first | exact bnil _ | refine Below.drew ?_ | refine bnew ?_ _))))
                      clear hK K
                      try simp only [Act.put, List.setIfInBounds_toArray, List.set_cons_zero, List.set_cons_succ]
                      refine wpAnyH_ready (rs := [10]) (by kernel_rfl) (by simp) ?_
                      refine AllReadyH.cons (o := ⟨some 115, _, _, _, _, _⟩) rfl (fun K hK => ?_) AllReadyH.nil
                      (refine step_appC elmCN gS_one rfl (.tmp 112) (.tmp 114) rfl (.slice Aj L cj) ((th1 t).zip (ava2 t)) rfl (HR.out.row _ (bnew (bnil _) _).drew) [((⟨2, []⟩ : VCall), (⟨none, 0, 0⟩ : SV))] y HYE rfl (Sl.drew (Sl.fresh' _ #[_, _] 53 2 1 _ (by simp) rfl)) rfl (by rw [HYL.out]; simp only [maxLen]; omega) (by rw [HYL.out]; omega) (Nat.le_trans HR.out.size (bnew (bnil _) _).drew.size) ?_; intro E6 c6 w6 hc6 hc7 HN6 HG6 HO6; have HZ := HR.out.grow _ w6 (bnew (bnil _) _).drew HG6.out)
                      refine hK.out _ _ ?_ (fun hHeld => ?_)
                      · (try dsimp only); (first | assumption | exact ⟨c2x, f3⟩ | exact HZ.1 | exact HZ.2.2 _ | (refine sees2f ?_ c2x c3 f3; (repeat (first | exact bnil _ | refine Below.drew ?_ | refine bnew ?_ _))))
                      clear hK K
                      try simp only [Act.put, List.setIfInBounds_toArray, List.set_cons_zero, List.set_cons_succ]
                      refine wpAnyH_take (i := 11) (oi := ⟨some 116, _, _, _, _, _⟩) (v := ?_) rfl (by kernel_rfl) (by kernel_rfl) (by kernel_rfl) (fun _ _ _ h => h) (Or.inl ⟨by rfl, ?_⟩) (by assumption) ?_
                      rotate_left
                      · intro w hSw; (try dsimp only at hSw); go_simp <;> with_reducible rfl
                      try simp only [Act.put, List.setIfInBounds_toArray, List.set_cons_zero, List.set_cons_succ]
                      refine wpAnyH_ready (rs := [12]) (by kernel_rfl) (by simp) ?_
                      refine AllReadyH.cons (o := ⟨none, _, _, _, _, _⟩) rfl (fun K hK => ?_) AllReadyH.nil
                      go_simp
                      refine hK.out _ _ ?_ (fun hHeld => ?_)
                      · (try dsimp only); (first | assumption | exact ⟨c2x, f3⟩ | exact HZ.1 | exact HZ.2.2 _ | (refine sees2f ?_ c2x c3 f3; (repeat (first | exact bnil _ | refine Below.drew ?_ | refine bnew ?_ _))))
                      clear hK K
                      try dsimp only [Act.put]
                      refine wpAnyH_done (by kernel_rfl) ?_ _
                      rotate_left
                      all_goals
                        have HF := hid (HXa2.out.app hk4 [⟨2, []⟩] [⟨none, 0, 0⟩] (bnew (bnil _) _).drew rfl (one_own2 2) HYE.out (by rw [HAJ.out]; exact HG6.out) (by rw [HAJ.out]; exact HO6.out) HN6.out)
                        clear HZ HG6 HO6 HN6
                        go_wp2
                        go_meet
                        exact ⟨_, _, HF⟩
                    case rest =>
                      obtain ⟨tvb2, avb2, HXb2⟩ := hcut
                      obtain ⟨wb2, hwb2⟩ : ∃ w2, w2 = wc := ⟨_, rfl⟩
                      subst hwb2
                      clear HR HAJ c2x c3 f3 hcj hcm ltT ltX HYE HYL y Aj cj hL18 L
                      obtain ⟨th2, hth2⟩ : ∃ th2, upd th1 t (th1 t ++ [⟨2, []⟩]) = th2 := ⟨_, rfl⟩
                      rw [hth2] at HXb2
                      have HLNc := hid (show (th2 t).length ≤ 18 by rw [← hth2, upd_same, ← HTH1.out, upd_same]; simp only [List.length_append, List.length_singleton]; have := HL15.out; omega)
                      have HTH2 := hid hth2
                      clear hth2
                      go_upto_region 20 with fail
                      have HOFc := hid (show ∀ (k' : Nat) (c : VCall) (a : SV), ([⟨1, [(t : Int)]⟩] : List VCall)[k']? = some c → ([⟨some ⟨wb2.heap.size, 0, none⟩, 1, 1⟩] : List SV)[k']? = some a → (((wb2.alloc (.cells #[.int .i64 (t : Int)] 3)).alloc (.cells #[.int .i64 1, .slice (some ⟨wb2.heap.size, 0, none⟩) 1 1] 53)).drew).ownsRow w.heap.size 3 1 a.v c.args.length (c.args.flatMap gI) from fun k' c a hc ha => by
                        rw [List.getElem?_singleton] at hc ha
                        split at hc
                        · rename_i h; rw [if_pos h] at ha
                          injection hc with hc; injection ha with ha
                          subst hc ha
                          exact own_below (own_fresh wb2 #[.int .i64 (t : Int)] 3 1 1 _ _ rfl HXb2.out.below.size rfl (by simp [maxLen])) (bnew (bnil _) _).drew
                        · cases hc)
                      obtain ⟨Aj, cj, hAj, HR0⟩ := HXb2.out.row hk4
                      obtain ⟨L, hL⟩ : ∃ L, (th2 t).length = L := ⟨_, rfl⟩
                      rw [hL] at hAj HR0
                      have hL18 : L ≤ 18 := by rw [← hL]; exact HLNc.out
                      obtain ⟨y, hy⟩ : ∃ y, (th2 t).zip (avb2 t) ++ [((⟨1, [(t : Int)]⟩ : VCall), (⟨some ⟨wb2.heap.size, 0, none⟩, 1, 1⟩ : SV))] = y := ⟨_, rfl⟩
                      have HYE := hid hy
                      have HYL := hid (show y.length = L + 1 by rw [← hy, List.length_append, HR0.len]; rfl)
                      have HR := hid HR0
                      have HAJ := hid hAj
                      have c2x := HR.out.c2; have c3 := HR.out.c3; have f3 := HR.out.f3; have hcj := HR.out.hcj; have hcm := HR.out.hcm
                      unfold maxLen at hcm
                      clear hy HR0 hAj hL
                      have ltT := World.block_lt_of_cell? wb2 _ c3
                      have ltX := World.block_lt_of_cell? wb2 _ c2x
                      refine wp_region_held_drew (S := (fun w' => w'.cell? ⟨X, 2, none⟩ = some (.slice (some ⟨T, 0, none⟩) n n) ∧ w'.frozen? ⟨T, t, none⟩ = false)) (by kernel_rfl) ?_ (fun hHeld => ?_)
                      · (try dsimp only); (first | assumption | exact ⟨c2x, f3⟩ | exact HZ.1 | exact HZ.2.2 _ | (refine sees2f ?_ c2x c3 f3; (repeat (first | exact bnil _ | refine Below.drew ?_ | refine bnew ?_ _))))
                      refine wpAnyH_take (i := 0) (oi := ⟨some 117, _, _, _, _, _⟩) (v := ?_) rfl (by kernel_rfl) (by kernel_rfl) (by kernel_rfl) (fun _ _ _ h => h) (Or.inl ⟨by rfl, ?_⟩) (by assumption) ?_
                      rotate_left
                      · intro w hSw; (try dsimp only at hSw); go_simp <;> with_reducible rfl
                      try simp only [Act.put, List.setIfInBounds_toArray, List.set_cons_zero, List.set_cons_succ]
                      refine wpAnyH_take (i := 1) (oi := ⟨some 118, _, _, _, _, _⟩) (v := ?_) rfl (by kernel_rfl) (by kernel_rfl) (by kernel_rfl) (fun _ _ _ h => h) (Or.inl ⟨by rfl, ?_⟩) (by assumption) ?_
                      rotate_left
                      · intro w hSw; (try dsimp only at hSw); go_simp <;> with_reducible rfl
                      try simp only [Act.put, List.setIfInBounds_toArray, List.set_cons_zero, List.set_cons_succ]
                      refine wpAnyH_take (i := 2) (oi := ⟨some 119, _, _, _, _, _⟩) (v := ?_) rfl (by kernel_rfl) (by kernel_rfl) (by kernel_rfl) (fun _ _ _ h => h) (Or.inl ⟨by rfl, ?_⟩) (by assumption) ?_
                      rotate_left
                      · intro w hSw; (try dsimp only at hSw); go_simp <;> with_reducible rfl
                      try simp only [Act.put, List.setIfInBounds_toArray, List.set_cons_zero, List.set_cons_succ]
                      refine wpAnyH_take (i := 3) (oi := ⟨some 120, _, _, _, _, _⟩) (v := ?_) rfl (by kernel_rfl) (by kernel_rfl) (by kernel_rfl) (fun _ _ _ h => h) (Or.inl ⟨by rfl, ?_⟩) (by assumption) ?_
                      rotate_left
                      · intro w hSw; (try dsimp only at hSw); go_simp <;> with_reducible rfl
                      try simp only [Act.put, List.setIfInBounds_toArray, List.set_cons_zero, List.set_cons_succ]
                      refine wpAnyH_take (i := 4) (oi := ⟨some 121, _, _, _, _, _⟩) (v := ?_) rfl (by kernel_rfl) (by kernel_rfl) (by kernel_rfl) (fun _ _ _ h => h) (Or.inl ⟨by rfl, ?_⟩) (by assumption) ?_
                      rotate_left
                      · intro w hSw; (try dsimp only at hSw); go_simp <;> with_reducible rfl
                      try simp only [Act.put, List.setIfInBounds_toArray, List.set_cons_zero, List.set_cons_succ]
                      refine wpAnyH_take (i := 5) (oi := ⟨some 122, _, _, _, _, _⟩) (v := ?_) rfl (by kernel_rfl) (by kernel_rfl) (by kernel_rfl) (fun _ _ _ h => h) (Or.inl ⟨by rfl, ?_⟩) (by assumption) ?_
                      rotate_left
                      · intro w hSw; (try dsimp only at hSw); go_simp <;> with_reducible rfl
                      try simp only [Act.put, List.setIfInBounds_toArray, List.set_cons_zero, List.set_cons_succ]
                      refine wpAnyH_take (i := 6) (oi := ⟨some 123, _, _, _, _, _⟩) (v := ?_) rfl (by kernel_rfl) (by kernel_rfl) (by kernel_rfl) (fun _ _ _ h => h) (Or.inl ⟨by rfl, ?_⟩) (by assumption) ?_
                      rotate_left
                      · intro w hSw; (try dsimp only at hSw); go_simp <;> with_reducible rfl
                      try simp only [Act.put, List.setIfInBounds_toArray, List.set_cons_zero, List.set_cons_succ]
                      refine wpAnyH_take (i := 8) (oi := ⟨some 125, _, _, _, _, _⟩) (v := ?_) rfl (by kernel_rfl) (by kernel_rfl) (by kernel_rfl) (fun _ _ _ h => h) (Or.inl ⟨by rfl, ?_⟩) (by assumption) ?_
                      rotate_left
                      · intro w hSw; (try dsimp only at hSw); go_simp <;> with_reducible rfl
                      try simp only [Act.put, List.setIfInBounds_toArray, List.set_cons_zero, List.set_cons_succ]
                      refine wpAnyH_ready (rs := [7, 9]) (by kernel_rfl) (by simp) ?_
                      refine AllReadyH.cons (o := ⟨some 124, _, _, _, _, _⟩) rfl (fun K hK => ?_) ?_
                      go_simp
                      refine hK.out _ _ ?_ (fun hHeld => ?_)
                      · (try dsimp only); (first | assumption | exact ⟨c2x, f3⟩ | exact HZ.1 | exact HZ.2.2 _ | (refine sees2f ?_ c2x c3 f3; (repeat (first | exact bnil _ | refine Below.drew ?_ | refine bnew ?_ _))))
                      clear hK K
                      try simp only [Act.put, List.setIfInBounds_toArray, List.set_cons_zero, List.set_cons_succ]
                      refine wpAnyH_ready (rs := [9]) (by kernel_rfl) (by simp) ?_
                      refine AllReadyH.cons (o := ⟨some 126, _, _, _, _, _⟩) rfl (fun K hK => ?_) AllReadyH.nil
                      go_simp
                      refine hK.out _ _ ?_ (fun hHeld => ?_)
                      · (try dsimp only); (first | assumption | exact ⟨c2x, f3⟩ | exact HZ.1 | exact HZ.2.2 _ | (refine sees2f ?_ c2x c3 f3; (repeat (first | exact bnil _ | refine Below.drew ?_ | refine bnew ?_ _))))
                      clear hK K
                      try simp only [Act.put, List.setIfInBounds_toArray, List.set_cons_zero, List.set_cons_succ]
                      refine wpAnyH_take (i := 10) (oi := ⟨some 127, _, _, _, _, _⟩) (v := ?_) rfl (by kernel_rfl) (by kernel_rfl) (by kernel_rfl) (fun _ _ _ h => h) (Or.inl ⟨by rfl, ?_⟩) (by assumption) ?_
                      rotate_left
                      · intro w hSw; (try dsimp only at hSw); go_simp <;> with_reducible rfl
                      try simp only [Act.put, List.setIfInBounds_toArray, List.set_cons_zero, List.set_cons_succ]
                      refine wpAnyH_ready (rs := [11]) (by kernel_rfl) (by simp) ?_
                      refine AllReadyH.cons (o := ⟨some 128, _, _, _, _, _⟩) rfl (fun K hK => ?_) AllReadyH.nil
                      go_simp
                      refine hK.out _ _ ?_ (fun hHeld => ?_)
                      · (try dsimp only); (first | assumption | exact ⟨c2x, f3⟩ | exact HZ.1 | exact HZ.2.2 _ | (refine sees2f ?_ c2x c3 f3; (repeat (first | exact bnil _ | refine Below.drew ?_ | refine bnew ?_ _))))
                      clear hK K
                      try simp only [Act.put, List.setIfInBounds_toArray, List.set_cons_zero, List.set_cons_succ]
                      refine wpAnyH_ready (rs := [12]) (by kernel_rfl) (by simp) ?_
                      refine AllReadyH.cons (o := ⟨some 129, _, _, _, _, _⟩) rfl (fun K hK => ?_) AllReadyH.nil
                      (refine step_appC elmCN gS_one rfl (.tmp 124) (.tmp 128) rfl (.slice Aj L cj) ((th2 t).zip (avb2 t)) rfl (HR.out.row _ (bnew (bnew (bnil _) _) _).drew) [((⟨1, [(t : Int)]⟩ : VCall), (⟨some ⟨wb2.heap.size, 0, none⟩, 1, 1⟩ : SV))] y HYE rfl (Sl.drew (Sl.fresh' _ #[_, _] 53 2 1 _ (by simp) rfl)) rfl (by rw [HYL.out]; simp only [maxLen]; omega) (by rw [HYL.out]; omega) (Nat.le_trans HR.out.size (bnew (bnew (bnil _) _) _).drew.size) ?_; intro E6 c6 w6 hc6 hc7 HN6 HG6 HO6; have HZ := HR.out.grow _ w6 (bnew (bnew (bnil _) _) _).drew HG6.out)
                      refine hK.out _ _ ?_ (fun hHeld => ?_)
                      · (try dsimp only); (first | assumption | exact ⟨c2x, f3⟩ | exact HZ.1 | exact HZ.2.2 _ | (refine sees2f ?_ c2x c3 f3; (repeat (first | exact bnil _ | refine Below.drew ?_ | refine bnew ?_ _))))
                      clear hK K
                      try simp only [Act.put, List.setIfInBounds_toArray, List.set_cons_zero, List.set_cons_succ]
                      refine wpAnyH_take (i := 13) (oi := ⟨some 130, _, _, _, _, _⟩) (v := ?_) rfl (by kernel_rfl) (by kernel_rfl) (by kernel_rfl) (fun _ _ _ h => h) (Or.inl ⟨by rfl, ?_⟩) (by assumption) ?_
                      rotate_left
                      · intro w hSw; (try dsimp only at hSw); go_simp <;> with_reducible rfl
                      try simp only [Act.put, List.setIfInBounds_toArray, List.set_cons_zero, List.set_cons_succ]
                      refine wpAnyH_ready (rs := [14]) (by kernel_rfl) (by simp) ?_
                      refine AllReadyH.cons (o := ⟨none, _, _, _, _, _⟩) rfl (fun K hK => ?_) AllReadyH.nil
                      go_simp
                      refine hK.out _ _ ?_ (fun hHeld => ?_)
                      · (try dsimp only); (first | assumption | exact ⟨c2x, f3⟩ | exact HZ.1 | exact HZ.2.2 _ | (refine sees2f ?_ c2x c3 f3; (repeat (first | exact bnil _ | refine Below.drew ?_ | refine bnew ?_ _))))
                      clear hK K
                      try dsimp only [Act.put]
                      refine wpAnyH_done (by kernel_rfl) ?_ _
                      rotate_left
                      refine AllReadyH.cons (o := ⟨some 126, _, _, _, _, _⟩) rfl (fun K hK => ?_) AllReadyH.nil
                      go_simp
                      refine hK.out _ _ ?_ (fun hHeld => ?_)
                      · (try dsimp only); (first | assumption | exact ⟨c2x, f3⟩ | exact HZ.1 | exact HZ.2.2 _ | (refine sees2f ?_ c2x c3 f3; (repeat (first | exact bnil _ | refine Below.drew ?_ | refine bnew ?_ _))))
                      clear hK K
                      try simp only [Act.put, List.setIfInBounds_toArray, List.set_cons_zero, List.set_cons_succ]
                      refine wpAnyH_take (i := 10) (oi := ⟨some 127, _, _, _, _, _⟩) (v := ?_) rfl (by kernel_rfl) (by kernel_rfl) (by kernel_rfl) (fun _ _ _ h => h) (Or.inl ⟨by rfl, ?_⟩) (by assumption) ?_
                      rotate_left
                      · intro w hSw; (try dsimp only at hSw); go_simp <;> with_reducible rfl
                      try simp only [Act.put, List.setIfInBounds_toArray, List.set_cons_zero, List.set_cons_succ]
                      refine wpAnyH_ready (rs := [7, 11]) (by kernel_rfl) (by simp) ?_
                      refine AllReadyH.cons (o := ⟨some 124, _, _, _, _, _⟩) rfl (fun K hK => ?_) ?_
                      go_simp
                      refine hK.out _ _ ?_ (fun hHeld => ?_)
                      · (try dsimp only); (first | assumption | exact ⟨c2x, f3⟩ | exact HZ.1 | exact HZ.2.2 _ | (refine sees2f ?_ c2x c3 f3; (repeat (first | exact bnil _ | refine Below.drew ?_ | refine bnew ?_ _))))
                      clear hK K
                      try simp only [Act.put, List.setIfInBounds_toArray, List.set_cons_zero, List.set_cons_succ]
                      refine wpAnyH_ready (rs := [11]) (by kernel_rfl) (by simp) ?_
                      refine AllReadyH.cons (o := ⟨some 128, _, _, _, _, _⟩) rfl (fun K hK => ?_) AllReadyH.nil
                      go_simp
                      refine hK.out _ _ ?_ (fun hHeld => ?_)
                      · (try dsimp only); (first | assumption | exact ⟨c2x, f3⟩ | exact HZ.1 | exact HZ.2.2 _ | (refine sees2f ?_ c2x c3 f3; (repeat (first | exact bnil _ | refine Below.drew ?_ | refine bnew ?_ _))))
                      clear hK K
                      try simp only [Act.put, List.setIfInBounds_toArray, List.set_cons_zero, List.set_cons_succ]
                      refine wpAnyH_ready (rs := [12]) (by kernel_rfl) (by simp) ?_
                      refine AllReadyH.cons (o := ⟨some 129, _, _, _, _, _⟩) rfl (fun K hK => ?_) AllReadyH.nil
                      (refine step_appC elmCN gS_one rfl (.tmp 124) (.tmp 128) rfl (.slice Aj L cj) ((th2 t).zip (avb2 t)) rfl (HR.out.row _ (bnew (bnew (bnil _) _) _).drew) [((⟨1, [(t : Int)]⟩ : VCall), (⟨some ⟨wb2.heap.size, 0, none⟩, 1, 1⟩ : SV))] y HYE rfl (Sl.drew (Sl.fresh' _ #[_, _] 53 2 1 _ (by simp) rfl)) rfl (by rw [HYL.out]; simp only [maxLen]; omega) (by rw [HYL.out]; omega) (Nat.le_trans HR.out.size (bnew (bnew (bnil _) _) _).drew.size) ?_; intro E6 c6 w6 hc6 hc7 HN6 HG6 HO6; have HZ := HR.out.grow _ w6 (bnew (bnew (bnil _) _) _).drew HG6.out)
                      refine hK.out _ _ ?_ (fun hHeld => ?_)
                      · (try dsimp only); (first | assumption | exact ⟨c2x, f3⟩ | exact HZ.1 | exact HZ.2.2 _ | (refine sees2f ?_ c2x c3 f3; (repeat (first | exact bnil _ | refine Below.drew ?_ | refine bnew ?_ _))))
                      clear hK K
                      try simp only [Act.put, List.setIfInBounds_toArray, List.set_cons_zero, List.set_cons_succ]
                      refine wpAnyH_take (i := 13) (oi := ⟨some 130, _, _, _, _, _⟩) (v := ?_) rfl (by kernel_rfl) (by kernel_rfl) (by kernel_rfl) (fun _ _ _ h => h) (Or.inl ⟨by rfl, ?_⟩) (by assumption) ?_
                      rotate_left
                      · intro w hSw; (try dsimp only at hSw); go_simp <;> with_reducible rfl
                      try simp only [Act.put, List.setIfInBounds_toArray, List.set_cons_zero, List.set_cons_succ]
                      refine wpAnyH_ready (rs := [14]) (by kernel_rfl) (by simp) ?_
                      refine AllReadyH.cons (o := ⟨none, _, _, _, _, _⟩) rfl (fun K hK => ?_) AllReadyH.nil
                      go_simp
                      refine hK.out _ _ ?_ (fun hHeld => ?_)
                      · (try dsimp only); (first | assumption | exact ⟨c2x, f3⟩ | exact HZ.1 | exact HZ.2.2 _ | (refine sees2f ?_ c2x c3 f3; (repeat (first | exact bnil _ | refine Below.drew ?_ | refine bnew ?_ _))))
                      clear hK K
                      try dsimp only [Act.put]
                      refine wpAnyH_done (by kernel_rfl) ?_ _
                      rotate_left
                      refine AllReadyH.cons (o := ⟨some 128, _, _, _, _, _⟩) rfl (fun K hK => ?_) AllReadyH.nil
                      go_simp
                      refine hK.out _ _ ?_ (fun hHeld => ?_)
                      · (try dsimp only); (first | assumption | exact ⟨c2x, f3⟩ | exact HZ.1 | exact HZ.2.2 _ | (refine sees2f ?_ c2x c3 f3; (repeat (first | exact bnil _ | refine Below.drew ?_ | refine bnew ?_ _))))
                      clear hK K
                      try simp only [Act.put, List.setIfInBounds_toArray, List.set_cons_zero, List.set_cons_succ]
                      refine wpAnyH_ready (rs := [7]) (by kernel_rfl) (by simp) ?_
                      refine AllReadyH.cons (o := ⟨some 124, _, _, _, _, _⟩) rfl (fun K hK => ?_) AllReadyH.nil
                      go_simp
                      refine hK.out _ _ ?_ (fun hHeld => ?_)
                      · (try dsimp only); (first | assumption | exact ⟨c2x, f3⟩ | exact HZ.1 | exact HZ.2.2 _ | (refine sees2f ?_ c2x c3 f3; (repeat (first | exact bnil _ | refine Below.drew ?_ | refine bnew ?_ _))))
                      clear hK K
                      try simp only [Act.put, List.setIfInBounds_toArray, List.set_cons_zero, List.set_cons_succ]
                      refine wpAnyH_ready (rs := [12]) (by kernel_rfl) (by simp) ?_
                      refine AllReadyH.cons (o := ⟨some 129, _, _, _, _, _⟩) rfl (fun K hK => ?_) AllReadyH.nil
                      (refine step_appC elmCN gS_one rfl (.tmp 124) (.tmp 128) rfl (.slice Aj L cj) ((th2 t).zip (avb2 t)) rfl (HR.out.row _ (bnew (bnew (bnil _) _) _).drew) [((⟨1, [(t : Int)]⟩ : VCall), (⟨some ⟨wb2.heap.size, 0, none⟩, 1, 1⟩ : SV))] y HYE rfl (Sl.drew (Sl.fresh' _ #[_, _] 53 2 1 _ (by simp) rfl)) rfl (by rw [HYL.out]; simp only [maxLen]; omega) (by rw [HYL.out]; omega) (Nat.le_trans HR.out.size (bnew (bnew (bnil _) _) _).drew.size) ?_; intro E6 c6 w6 hc6 hc7 HN6 HG6 HO6; have HZ := HR.out.grow _ w6 (bnew (bnew (bnil _) _) _).drew HG6.out)
                      refine hK.out _ _ ?_ (fun hHeld => ?_)
                      · (try dsimp only); (first | assumption | exact ⟨c2x, f3⟩ | exact HZ.1 | exact HZ.2.2 _ | (refine sees2f ?_ c2x c3 f3; (repeat (first | exact bnil _ | refine Below.drew ?_ | refine bnew ?_ _))))
                      clear hK K
                      try simp only [Act.put, List.setIfInBounds_toArray, List.set_cons_zero, List.set_cons_succ]
                      refine wpAnyH_take (i := 13) (oi := ⟨some 130, _, _, _, _, _⟩) (v := ?_) rfl (by kernel_rfl) (by kernel_rfl) (by kernel_rfl) (fun _ _ _ h => h) (Or.inl ⟨by rfl, ?_⟩) (by assumption) ?_
                      rotate_left
                      · intro w hSw; (try dsimp only at hSw); go_simp <;> with_reducible rfl
                      try simp only [Act.put, List.setIfInBounds_toArray, List.set_cons_zero, List.set_cons_succ]
                      refine wpAnyH_ready (rs := [14]) (by kernel_rfl) (by simp) ?_
                      refine AllReadyH.cons (o := ⟨none, _, _, _, _, _⟩) rfl (fun K hK => ?_) AllReadyH.nil
                      go_simp
                      refine hK.out _ _ ?_ (fun hHeld => ?_)
                      · (try dsimp only); (first | assumption | exact ⟨c2x, f3⟩ | exact HZ.1 | exact HZ.2.2 _ | (refine sees2f ?_ c2x c3 f3; (repeat (first | exact bnil _ | refine Below.drew ?_ | refine bnew ?_ _))))
                      clear hK K
                      try dsimp only [Act.put]
                      refine wpAnyH_done (by kernel_rfl) ?_ _
                      rotate_left
                      all_goals
                        have HXc2 := hid (HXb2.out.app hk4 [⟨1, [(t : Int)]⟩] [⟨some ⟨wb2.heap.size, 0, none⟩, 1, 1⟩] (bnew (bnew (bnil _) _) _).drew rfl (HOFc.out) HYE.out (by rw [HAJ.out]; exact HG6.out) (by rw [HAJ.out]; exact HO6.out) HN6.out)
                        clear HZ HG6 HO6 HN6
                        have HXE := hid (show MBun w _ w.heap.size nil3 w.heap.size X Cb T 3 n (.slice AW (2 * n) cW) (List.replicate (2 * n) (0 : Int)) (fun i => [Value.slice A1 (lenterCode n).length c1, (.slice A2 (lleaveCode n).length c2), .slice (some ⟨bk, 0, none⟩) work work].getD i undef) (fun i => [lenterCode n, lleaveCode n, lops work work].getD i []) _ (lths f work t (i + 1)) _ from by have h := HXc2.out; rw [← HTH2.out, upd_upd, upd_same, ← HTH1.out, upd_upd, upd_same, List.append_assoc, List.append_assoc] at h; rw [← lths_upd]; unfold lround; rw [if_pos hw0]; exact h)
                        clear HXc2
                        go_wp2
                        go_roundw
                        case rel => exact ⟨i + 1, _, _, hi, by go_num, HXE⟩
                        case measure => simp [intOf]; omega
                  · have iw0 : ¬ (0 : Int) < (work : Int) := by omega
                    have HLNc := HLNb
                    go_upto_region 20 with fail
                    have HOFc := hid (show ∀ (k' : Nat) (c : VCall) (a : SV), ([⟨1, [(t : Int)]⟩] : List VCall)[k']? = some c → ([⟨some ⟨wa2.heap.size, 0, none⟩, 1, 1⟩] : List SV)[k']? = some a → (((wa2.alloc (.cells #[.int .i64 (t : Int)] 3)).alloc (.cells #[.int .i64 1, .slice (some ⟨wa2.heap.size, 0, none⟩) 1 1] 53)).drew).ownsRow w.heap.size 3 1 a.v c.args.length (c.args.flatMap gI) from fun k' c a hc ha => by
                      rw [List.getElem?_singleton] at hc ha
                      split at hc
                      · rename_i h; rw [if_pos h] at ha
                        injection hc with hc; injection ha with ha
                        subst hc ha
                        exact own_below (own_fresh wa2 #[.int .i64 (t : Int)] 3 1 1 _ _ rfl HXa2.out.below.size rfl (by simp [maxLen])) (bnew (bnil _) _).drew
                      · cases hc)
                    obtain ⟨Aj, cj, hAj, HR0⟩ := HXa2.out.row hk4
                    obtain ⟨L, hL⟩ : ∃ L, (th1 t).length = L := ⟨_, rfl⟩
                    rw [hL] at hAj HR0
                    have hL18 : L ≤ 18 := by rw [← hL]; exact HLNc.out
                    obtain ⟨y, hy⟩ : ∃ y, (th1 t).zip (ava2 t) ++ [((⟨1, [(t : Int)]⟩ : VCall), (⟨some ⟨wa2.heap.size, 0, none⟩, 1, 1⟩ : SV))] = y := ⟨_, rfl⟩
                    have HYE := hid hy
                    have HYL := hid (show y.length = L + 1 by rw [← hy, List.length_append, HR0.len]; rfl)
                    have HR := hid HR0
                    have HAJ := hid hAj
                    have c2x := HR.out.c2; have c3 := HR.out.c3; have f3 := HR.out.f3; have hcj := HR.out.hcj; have hcm := HR.out.hcm
                    unfold maxLen at hcm
                    clear hy HR0 hAj hL
                    have ltT := World.block_lt_of_cell? wa2 _ c3
                    have ltX := World.block_lt_of_cell? wa2 _ c2x
                    refine wp_region_held_drew (S := (fun w' => w'.cell? ⟨X, 2, none⟩ = some (.slice (some ⟨T, 0, none⟩) n n) ∧ w'.frozen? ⟨T, t, none⟩ = false)) (by kernel_rfl) ?_ (fun hHeld => ?_)
                    · (try dsimp only); (first | assumption | exact ⟨c2x, f3⟩ | exact HZ.1 | exact HZ.2.2 _ | (refine sees2f ?_ c2x c3 f3; (repeat (first | exact bnil _ | refine Below.drew ?_ | refine bnew ?_ _))))
                    refine wpAnyH_take (i := 0) (oi := ⟨some 117, _, _, _, _, _⟩) (v := ?_) rfl (by kernel_rfl) (by kernel_rfl) (by kernel_rfl) (fun _ _ _ h => h) (Or.inl ⟨by rfl, ?_⟩) (by assumption) ?_
                    rotate_left
                    · intro w hSw; (try dsimp only at hSw); go_simp <;> with_reducible rfl
                    try simp only [Act.put, List.setIfInBounds_toArray, List.set_cons_zero, List.set_cons_succ]
                    refine wpAnyH_take (i := 1) (oi := ⟨some 118, _, _, _, _, _⟩) (v := ?_) rfl (by kernel_rfl) (by kernel_rfl) (by kernel_rfl) (fun _ _ _ h => h) (Or.inl ⟨by rfl, ?_⟩) (by assumption) ?_
                    rotate_left
                    · intro w hSw; (try dsimp only at hSw); go_simp <;> with_reducible rfl
                    try simp only [Act.put, List.setIfInBounds_toArray, List.set_cons_zero, List.set_cons_succ]
                    refine wpAnyH_take (i := 2) (oi := ⟨some 119, _, _, _, _, _⟩) (v := ?_) rfl (by kernel_rfl) (by kernel_rfl) (by kernel_rfl) (fun _ _ _ h => h) (Or.inl ⟨by rfl, ?_⟩) (by assumption) ?_
                    rotate_left
                    · intro w hSw; (try dsimp only at hSw); go_simp <;> with_reducible rfl
                    try simp only [Act.put, List.setIfInBounds_toArray, List.set_cons_zero, List.set_cons_succ]
                    refine wpAnyH_take (i := 3) (oi := ⟨some 120, _, _, _, _, _⟩) (v := ?_) rfl (by kernel_rfl) (by kernel_rfl) (by kernel_rfl) (fun _ _ _ h => h) (Or.inl ⟨by rfl, ?_⟩) (by assumption) ?_
                    rotate_left
                    · intro w hSw; (try dsimp only at hSw); go_simp <;> with_reducible rfl
                    try simp only [Act.put, List.setIfInBounds_toArray, List.set_cons_zero, List.set_cons_succ]
                    refine wpAnyH_take (i := 4) (oi := ⟨some 121, _, _, _, _, _⟩) (v := ?_) rfl (by kernel_rfl) (by kernel_rfl) (by kernel_rfl) (fun _ _ _ h => h) (Or.inl ⟨by rfl, ?_⟩) (by assumption) ?_
                    rotate_left
                    · intro w hSw; (try dsimp only at hSw); go_simp <;> with_reducible rfl
                    try simp only [Act.put, List.setIfInBounds_toArray, List.set_cons_zero, List.set_cons_succ]
                    refine wpAnyH_take (i := 5) (oi := ⟨some 122, _, _, _, _, _⟩) (v := ?_) rfl (by kernel_rfl) (by kernel_rfl) (by kernel_rfl) (fun _ _ _ h => h) (Or.inl ⟨by rfl, ?_⟩) (by assumption) ?_
                    rotate_left
                    · intro w hSw; (try dsimp only at hSw); go_simp <;> with_reducible rfl
                    try simp only [Act.put, List.setIfInBounds_toArray, List.set_cons_zero, List.set_cons_succ]
                    refine wpAnyH_take (i := 6) (oi := ⟨some 123, _, _, _, _, _⟩) (v := ?_) rfl (by kernel_rfl) (by kernel_rfl) (by kernel_rfl) (fun _ _ _ h => h) (Or.inl ⟨by rfl, ?_⟩) (by assumption) ?_
                    rotate_left
                    · intro w hSw; (try dsimp only at hSw); go_simp <;> with_reducible rfl
                    try simp only [Act.put, List.setIfInBounds_toArray, List.set_cons_zero, List.set_cons_succ]
                    refine wpAnyH_take (i := 8) (oi := ⟨some 125, _, _, _, _, _⟩) (v := ?_) rfl (by kernel_rfl) (by kernel_rfl) (by kernel_rfl) (fun _ _ _ h => h) (Or.inl ⟨by rfl, ?_⟩) (by assumption) ?_
                    rotate_left
                    · intro w hSw; (try dsimp only at hSw); go_simp <;> with_reducible rfl
                    try simp only [Act.put, List.setIfInBounds_toArray, List.set_cons_zero, List.set_cons_succ]
                    refine wpAnyH_ready (rs := [7, 9]) (by kernel_rfl) (by simp) ?_
                    refine AllReadyH.cons (o := ⟨some 124, _, _, _, _, _⟩) rfl (fun K hK => ?_) ?_
                    go_simp
                    refine hK.out _ _ ?_ (fun hHeld => ?_)
                    · (try dsimp only); (first | assumption | exact ⟨c2x, f3⟩ | exact HZ.1 | exact HZ.2.2 _ | (refine sees2f ?_ c2x c3 f3; (repeat (first | exact bnil _ | refine Below.drew ?_ | refine bnew ?_ _))))
                    clear hK K
                    try simp only [Act.put, List.setIfInBounds_toArray, List.set_cons_zero, List.set_cons_succ]
                    refine wpAnyH_ready (rs := [9]) (by kernel_rfl) (by simp) ?_
                    refine AllReadyH.cons (o := ⟨some 126, _, _, _, _, _⟩) rfl (fun K hK => ?_) AllReadyH.nil
                    go_simp
                    refine hK.out _ _ ?_ (fun hHeld => ?_)
                    · (try dsimp only); (first | assumption | exact ⟨c2x, f3⟩ | exact HZ.1 | exact HZ.2.2 _ | (refine sees2f ?_ c2x c3 f3; (repeat (first | exact bnil _ | refine Below.drew ?_ | refine bnew ?_ _))))
                    clear hK K
                    try simp only [Act.put, List.setIfInBounds_toArray, List.set_cons_zero, List.set_cons_succ]
                    refine wpAnyH_take (i := 10) (oi := ⟨some 127, _, _, _, _, _⟩) (v := ?_) rfl (by kernel_rfl) (by kernel_rfl) (by kernel_rfl) (fun _ _ _ h => h) (Or.inl ⟨by rfl, ?_⟩) (by assumption) ?_
                    rotate_left
                    · intro w hSw; (try dsimp only at hSw); go_simp <;> with_reducible rfl
                    try simp only [Act.put, List.setIfInBounds_toArray, List.set_cons_zero, List.set_cons_succ]
                    refine wpAnyH_ready (rs := [11]) (by kernel_rfl) (by simp) ?_
                    refine AllReadyH.cons (o := ⟨some 128, _, _, _, _, _⟩) rfl (fun K hK => ?_) AllReadyH.nil
                    go_simp
                    refine hK.out _ _ ?_ (fun hHeld => ?_)
                    · (try dsimp only); (first | assumption | exact ⟨c2x, f3⟩ | exact HZ.1 | exact HZ.2.2 _ | (refine sees2f ?_ c2x c3 f3; (repeat (first | exact bnil _ | refine Below.drew ?_ | refine bnew ?_ _))))
                    clear hK K
                    try simp only [Act.put, List.setIfInBounds_toArray, List.set_cons_zero, List.set_cons_succ]
                    refine wpAnyH_ready (rs := [12]) (by kernel_rfl) (by simp) ?_
                    refine AllReadyH.cons (o := ⟨some 129, _, _, _, _, _⟩) rfl (fun K hK => ?_) AllReadyH.nil
                    (refine step_appC elmCN gS_one rfl (.tmp 124) (.tmp 128) rfl (.slice Aj L cj) ((th1 t).zip (ava2 t)) rfl (HR.out.row _ (bnew (bnew (bnil _) _) _).drew) [((⟨1, [(t : Int)]⟩ : VCall), (⟨some ⟨wa2.heap.size, 0, none⟩, 1, 1⟩ : SV))] y HYE rfl (Sl.drew (Sl.fresh' _ #[_, _] 53 2 1 _ (by simp) rfl)) rfl (by rw [HYL.out]; simp only [maxLen]; omega) (by rw [HYL.out]; omega) (Nat.le_trans HR.out.size (bnew (bnew (bnil _) _) _).drew.size) ?_; intro E6 c6 w6 hc6 hc7 HN6 HG6 HO6; have HZ := HR.out.grow _ w6 (bnew (bnew (bnil _) _) _).drew HG6.out)
                    refine hK.out _ _ ?_ (fun hHeld => ?_)
                    · (try dsimp only); (first | assumption | exact ⟨c2x, f3⟩ | exact HZ.1 | exact HZ.2.2 _ | (refine sees2f ?_ c2x c3 f3; (repeat (first | exact bnil _ | refine Below.drew ?_ | refine bnew ?_ _))))
                    clear hK K
                    try simp only [Act.put, List.setIfInBounds_toArray, List.set_cons_zero, List.set_cons_succ]
                    refine wpAnyH_take (i := 13) (oi := ⟨some 130, _, _, _, _, _⟩) (v := ?_) rfl (by kernel_rfl) (by kernel_rfl) (by kernel_rfl) (fun _ _ _ h => h) (Or.inl ⟨by rfl, ?_⟩) (by assumption) ?_
                    rotate_left
                    · intro w hSw; (try dsimp only at hSw); go_simp <;> with_reducible rfl
                    try simp only [Act.put, List.setIfInBounds_toArray, List.set_cons_zero, List.set_cons_succ]
                    refine wpAnyH_ready (rs := [14]) (by kernel_rfl) (by simp) ?_
                    refine AllReadyH.cons (o := ⟨none, _, _, _, _, _⟩) rfl (fun K hK => ?_) AllReadyH.nil
                    go_simp
                    refine hK.out _ _ ?_ (fun hHeld => ?_)
                    · (try dsimp only); (first | assumption | exact ⟨c2x, f3⟩ | exact HZ.1 | exact HZ.2.2 _ | (refine sees2f ?_ c2x c3 f3; (repeat (first | exact bnil _ | refine Below.drew ?_ | refine bnew ?_ _))))
                    clear hK K
                    try dsimp only [Act.put]
                    refine wpAnyH_done (by kernel_rfl) ?_ _
                    rotate_left
                    refine AllReadyH.cons (o := ⟨some 126, _, _, _, _, _⟩) rfl (fun K hK => ?_) AllReadyH.nil
                    go_simp
                    refine hK.out _ _ ?_ (fun hHeld => ?_)
                    · (try dsimp only); (first | assumption | exact ⟨c2x, f3⟩ | exact HZ.1 | exact HZ.2.2 _ | (refine sees2f ?_ c2x c3 f3; (repeat (first | exact bnil _ | refine Below.drew ?_ | refine bnew ?_ _))))
                    clear hK K
                    try simp only [Act.put, List.setIfInBounds_toArray, List.set_cons_zero, List.set_cons_succ]
                    refine wpAnyH_take (i := 10) (oi := ⟨some 127, _, _, _, _, _⟩) (v := ?_) rfl (by kernel_rfl) (by kernel_rfl) (by kernel_rfl) (fun _ _ _ h => h) (Or.inl ⟨by rfl, ?_⟩) (by assumption) ?_
                    rotate_left
                    · intro w hSw; (try dsimp only at hSw); go_simp <;> with_reducible rfl
                    try simp only [Act.put, List.setIfInBounds_toArray, List.set_cons_zero, List.set_cons_succ]
                    refine wpAnyH_ready (rs := [7, 11]) (by kernel_rfl) (by simp) ?_
                    refine AllReadyH.cons (o := ⟨some 124, _, _, _, _, _⟩) rfl (fun K hK => ?_) ?_
                    go_simp
                    refine hK.out _ _ ?_ (fun hHeld => ?_)
                    · (try dsimp only); (first | assumption | exact ⟨c2x, f3⟩ | exact HZ.1 | exact HZ.2.2 _ | (refine sees2f ?_ c2x c3 f3; (repeat (first | exact bnil _ | refine Below.drew ?_ | refine bnew ?_ _))))
                    clear hK K
                    try simp only [Act.put, List.setIfInBounds_toArray, List.set_cons_zero, List.set_cons_succ]
                    refine wpAnyH_ready (rs := [11]) (by kernel_rfl) (by simp) ?_
                    refine AllReadyH.cons (o := ⟨some 128, _, _, _, _, _⟩) rfl (fun K hK => ?_) AllReadyH.nil
                    go_simp
                    refine hK.out _ _ ?_ (fun hHeld => ?_)
                    · (try dsimp only); (first | assumption | exact ⟨c2x, f3⟩ | exact HZ.1 | exact HZ.2.2 _ | (refine sees2f ?_ c2x c3 f3; (repeat (first | exact bnil _ | refine Below.drew ?_ | refine bnew ?_ _))))
                    clear hK K
                    try simp only [Act.put, List.setIfInBounds_toArray, List.set_cons_zero, List.set_cons_succ]
                    refine wpAnyH_ready (rs := [12]) (by kernel_rfl) (by simp) ?_
                    refine AllReadyH.cons (o := ⟨some 129, _, _, _, _, _⟩) rfl (fun K hK => ?_) AllReadyH.nil
                    (refine step_appC elmCN gS_one rfl (.tmp 124) (.tmp 128) rfl (.slice Aj L cj) ((th1 t).zip (ava2 t)) rfl (HR.out.row _ (bnew (bnew (bnil _) _) _).drew) [((⟨1, [(t : Int)]⟩ : VCall), (⟨some ⟨wa2.heap.size, 0, none⟩, 1, 1⟩ : SV))] y HYE rfl (Sl.drew (Sl.fresh' _ #[_, _] 53 2 1 _ (by simp) rfl)) rfl (by rw [HYL.out]; simp only [maxLen]; omega) (by rw [HYL.out]; omega) (Nat.le_trans HR.out.size (bnew (bnew (bnil _) _) _).drew.size) ?_; intro E6 c6 w6 hc6 hc7 HN6 HG6 HO6; have HZ := HR.out.grow _ w6 (bnew (bnew (bnil _) _) _).drew HG6.out)
                    refine hK.out _ _ ?_ (fun hHeld => ?_)
                    · (try dsimp only); (first | assumption | exact ⟨c2x, f3⟩ | exact HZ.1 | exact HZ.2.2 _ | (refine sees2f ?_ c2x c3 f3; (repeat (first | exact bnil _ | refine Below.drew ?_ | refine bnew ?_ _))))
                    clear hK K
                    try simp only [Act.put, List.setIfInBounds_toArray, List.set_cons_zero, List.set_cons_succ]
                    refine wpAnyH_take (i := 13) (oi := ⟨some 130, _, _, _, _, _⟩) (v := ?_) rfl (by kernel_rfl) (by kernel_rfl) (by kernel_rfl) (fun _ _ _ h => h) (Or.inl ⟨by rfl, ?_⟩) (by assumption) ?_
                    rotate_left
                    · intro w hSw; (try dsimp only at hSw); go_simp <;> with_reducible rfl
                    try simp only [Act.put, List.setIfInBounds_toArray, List.set_cons_zero, List.set_cons_succ]
                    refine wpAnyH_ready (rs := [14]) (by kernel_rfl) (by simp) ?_
                    refine AllReadyH.cons (o := ⟨none, _, _, _, _, _⟩) rfl (fun K hK => ?_) AllReadyH.nil
                    go_simp
                    refine hK.out _ _ ?_ (fun hHeld => ?_)
                    · (try dsimp only); (first | assumption | exact ⟨c2x, f3⟩ | exact HZ.1 | exact HZ.2.2 _ | (refine sees2f ?_ c2x c3 f3; (repeat (first | exact bnil _ | refine Below.drew ?_ | refine bnew ?_ _))))
                    clear hK K
                    try dsimp only [Act.put]
                    refine wpAnyH_done (by kernel_rfl) ?_ _
                    rotate_left
                    refine AllReadyH.cons (o := ⟨some 128, _, _, _, _, _⟩) rfl (fun K hK => ?_) AllReadyH.nil
                    go_simp
                    refine hK.out _ _ ?_ (fun hHeld => ?_)
                    · (try dsimp only); (first | assumption | exact ⟨c2x, f3⟩ | exact HZ.1 | exact HZ.2.2 _ | (refine sees2f ?_ c2x c3 f3; (repeat (first | exact bnil _ | refine Below.drew ?_ | refine bnew ?_ _))))
                    clear hK K
                    try simp only [Act.put, List.setIfInBounds_toArray, List.set_cons_zero, List.set_cons_succ]
                    refine wpAnyH_ready (rs := [7]) (by kernel_rfl) (by simp) ?_
                    refine AllReadyH.cons (o := ⟨some 124, _, _, _, _, _⟩) rfl (fun K hK => ?_) AllReadyH.nil
                    go_simp
                    refine hK.out _ _ ?_ (fun hHeld => ?_)
                    · (try dsimp only); (first | assumption | exact ⟨c2x, f3⟩ | exact HZ.1 | exact HZ.2.2 _ | (refine sees2f ?_ c2x c3 f3; (repeat (first | exact bnil _ | refine Below.drew ?_ | refine bnew ?_ _))))
                    clear hK K
                    try simp only [Act.put, List.setIfInBounds_toArray, List.set_cons_zero, List.set_cons_succ]
                    refine wpAnyH_ready (rs := [12]) (by kernel_rfl) (by simp) ?_
                    refine AllReadyH.cons (o := ⟨some 129, _, _, _, _, _⟩) rfl (fun K hK => ?_) AllReadyH.nil
                    (refine step_appC elmCN gS_one rfl (.tmp 124) (.tmp 128) rfl (.slice Aj L cj) ((th1 t).zip (ava2 t)) rfl (HR.out.row _ (bnew (bnew (bnil _) _) _).drew) [((⟨1, [(t : Int)]⟩ : VCall), (⟨some ⟨wa2.heap.size, 0, none⟩, 1, 1⟩ : SV))] y HYE rfl (Sl.drew (Sl.fresh' _ #[_, _] 53 2 1 _ (by simp) rfl)) rfl (by rw [HYL.out]; simp only [maxLen]; omega) (by rw [HYL.out]; omega) (Nat.le_trans HR.out.size (bnew (bnew (bnil _) _) _).drew.size) ?_; intro E6 c6 w6 hc6 hc7 HN6 HG6 HO6; have HZ := HR.out.grow _ w6 (bnew (bnew (bnil _) _) _).drew HG6.out)
                    refine hK.out _ _ ?_ (fun hHeld => ?_)
                    · (try dsimp only); (first | assumption | exact ⟨c2x, f3⟩ | exact HZ.1 | exact HZ.2.2 _ | (refine sees2f ?_ c2x c3 f3; (repeat (first | exact bnil _ | refine Below.drew ?_ | refine bnew ?_ _))))
                    clear hK K
                    try simp only [Act.put, List.setIfInBounds_toArray, List.set_cons_zero, List.set_cons_succ]
                    refine wpAnyH_take (i := 13) (oi := ⟨some 130, _, _, _, _, _⟩) (v := ?_) rfl (by kernel_rfl) (by kernel_rfl) (by kernel_rfl) (fun _ _ _ h => h) (Or.inl ⟨by rfl, ?_⟩) (by assumption) ?_
                    rotate_left
                    · intro w hSw; (try dsimp only at hSw); go_simp <;> with_reducible rfl
                    try simp only [Act.put, List.setIfInBounds_toArray, List.set_cons_zero, List.set_cons_succ]
                    refine wpAnyH_ready (rs := [14]) (by kernel_rfl) (by simp) ?_
                    refine AllReadyH.cons (o := ⟨none, _, _, _, _, _⟩) rfl (fun K hK => ?_) AllReadyH.nil
                    go_simp
                    refine hK.out _ _ ?_ (fun hHeld => ?_)
                    · (try dsimp only); (first | assumption | exact ⟨c2x, f3⟩ | exact HZ.1 | exact HZ.2.2 _ | (refine sees2f ?_ c2x c3 f3; (repeat (first | exact bnil _ | refine Below.drew ?_ | refine bnew ?_ _))))
                    clear hK K
                    try dsimp only [Act.put]
                    refine wpAnyH_done (by kernel_rfl) ?_ _
                    rotate_left
                    all_goals
                      have HXc2 := hid (HXa2.out.app hk4 [⟨1, [(t : Int)]⟩] [⟨some ⟨wa2.heap.size, 0, none⟩, 1, 1⟩] (bnew (bnew (bnil _) _) _).drew rfl (HOFc.out) HYE.out (by rw [HAJ.out]; exact HG6.out) (by rw [HAJ.out]; exact HO6.out) HN6.out)
                      clear HZ HG6 HO6 HN6
                      have HXE := hid (show MBun w _ w.heap.size nil3 w.heap.size X Cb T 3 n (.slice AW (2 * n) cW) (List.replicate (2 * n) (0 : Int)) (fun i => [Value.slice A1 (lenterCode n).length c1, (.slice A2 (lleaveCode n).length c2), .slice (some ⟨bk, 0, none⟩) work work].getD i undef) (fun i => [lenterCode n, lleaveCode n, lops work work].getD i []) _ (lths f work t (i + 1)) _ from by have h := HXc2.out; rw [← HTH1.out, upd_upd, upd_same, List.append_assoc] at h; rw [← lths_upd]; unfold lround; rw [if_neg hw0]; exact h)
                      clear HXc2
                      go_wp2
                      go_roundw
                      case rel => exact ⟨i + 1, _, _, hi, by go_num, HXE⟩
                      case measure => simp [intOf]; omega
              · obtain rfl : i = F := by omega
                have i5 : ¬ (i : Int) < (i : Int) := by omega
                have HXN := hid (show MBun w wr w.heap.size nil3 w.heap.size X Cb T 3 n (.slice AW (2 * n) cW) (List.replicate (2 * n) (0 : Int)) (fun i => [Value.slice A1 (lenterCode n).length c1, (.slice A2 (lleaveCode n).length c2), .slice (some ⟨bk, 0, none⟩) work work].getD i undef) (fun i => [lenterCode n, lleaveCode n, lops work work].getD i []) tv (lths f work (t + 1) 0) av from by have h := HX.out; rw [← HFT.out, lths_next] at h; exact h)
                clear HX
                go_wp2
                go_roundw
                case rel => exact ⟨t + 1, _, _, by omega, by go_num, HXN⟩
                case measure => simp [intOf]; omega
          · obtain rfl : t = n := by omega
            have i4 : ¬ (t : Int) < (t : Int) := by omega
            have HMA := hid (lmach_at HX.out.mn h1 h4 (by omega) HFF.out)
            have y0 : wr.cell? ⟨X, 0, none⟩ = some (.slice AW (2 * t) cW) := HX.out.hx.cell 0
            have y1 : wr.cell? ⟨X, 1, none⟩ = some (.slice (some ⟨Cb, 0, none⟩) 3 3) := HX.out.hx.cell 1
            have y2 : wr.cell? ⟨X, 2, none⟩ = some (.slice (some ⟨T, 0, none⟩) t t) := HX.out.hx.cell 2
            have z0 := HX.out.hr.frozen 0
            have z1 := HX.out.hr.frozen 1
            have z2 := HX.out.hr.frozen 2
            have z3 : wr.cell? ⟨w.heap.size, 0, none⟩ = some (.slice none 0 0) := HX.out.hr.cell 0
            have z4 : wr.cell? ⟨w.heap.size, 1, none⟩ = some (.slice none 0 0) := HX.out.hr.cell 1
            have z5 : wr.cell? ⟨w.heap.size, 2, none⟩ = some (.slice none 0 0) := HX.out.hr.cell 2
            have HTR := hid (HT.out.below HX.out.below)
            have hXR : X ≠ w.heap.size := fun e => by
              rw [e] at y1
              rw [z4] at y1
              injection y1 with y1; injection y1 with y1; cases y1
            obtain ⟨n, hnt⟩ : ∃ n, n = t := ⟨_, rfl⟩
            subst hnt
            go_upto_region 21 with fail
            refine wp_region_held_drew (S := (fun w' => w'.cell? ⟨X, 0, none⟩ = some (.slice AW (2 * n) cW) ∧ w'.cell? ⟨X, 1, none⟩ = some (.slice (some ⟨Cb, 0, none⟩) 3 3) ∧ w'.cell? ⟨X, 2, none⟩ = some (.slice (some ⟨T, 0, none⟩) n n) ∧ w'.frozen? ⟨w.heap.size, 0, none⟩ = false ∧ w'.frozen? ⟨w.heap.size, 1, none⟩ = false ∧ w'.frozen? ⟨w.heap.size, 2, none⟩ = false)) (by kernel_rfl) ?_ (fun hHeld => ?_)
            · (try dsimp only); (first | assumption | exact ⟨y0, y1, y2, z0, z1, z2⟩ | exact ⟨y0', y1', y2', z0', z1', z2'⟩ | exact keep16s hXR y0' y1' y2' z0' z1' z2' _ _ _)
            refine wpAnyH_take (i := 0) (oi := ⟨some 131, _, _, _, _, _⟩) (v := ?_) rfl (by kernel_rfl) (by kernel_rfl) (by kernel_rfl) (fun _ _ _ h => h) (Or.inl ⟨by rfl, ?_⟩) (by assumption) ?_
            rotate_left
            · intro w hSw; (try dsimp only at hSw); go_simp <;> with_reducible rfl
            try simp only [Act.put, List.setIfInBounds_toArray, List.set_cons_zero, List.set_cons_succ]
            refine wpAnyH_take (i := 1) (oi := ⟨some 132, _, _, _, _, _⟩) (v := ?_) rfl (by kernel_rfl) (by kernel_rfl) (by kernel_rfl) (fun _ _ _ h => h) (Or.inl ⟨by rfl, ?_⟩) (by assumption) ?_
            rotate_left
            · intro w hSw; (try dsimp only at hSw); go_simp <;> with_reducible rfl
            try simp only [Act.put, List.setIfInBounds_toArray, List.set_cons_zero, List.set_cons_succ]
            refine wpAnyH_ready (rs := [2]) (by kernel_rfl) (by simp) ?_
            refine AllReadyH.cons (o := ⟨some 133, _, _, _, _, _⟩) rfl (fun K hK => ?_) AllReadyH.nil
            go_simp
            refine (run_may AW (some ⟨Cb, 0, none⟩) (some ⟨T, 0, none⟩) (2 * n) cW 3 3 n n _ _ (by omega) (by decide) (by omega) (HTR.out.below (bnil _).drew) (HMA.out.below (bnil _).drew)).mono ?_; rintro e w4 ⟨rfl, b4⟩; have b4 := bgo (bnil wr).drew b4; obtain ⟨y0', y1', y2', z0', z1', z2', z3', z4', z5'⟩ := keep16 b4 y0 y1 y2 z0 z1 z2 z3 z4 z5; clear y0 y1 y2 z0 z1 z2 z3 z4 z5
            go_wp2_with fail
            refine hK.out _ _ ?_ (fun hHeld => ?_)
            · (try dsimp only); (first | assumption | exact ⟨y0, y1, y2, z0, z1, z2⟩ | exact ⟨y0', y1', y2', z0', z1', z2'⟩ | exact keep16s hXR y0' y1' y2' z0' z1' z2' _ _ _)
            clear hK K
            try simp only [Act.put, List.setIfInBounds_toArray, List.set_cons_zero, List.set_cons_succ]
            refine wpAnyH_ready (rs := [3]) (by kernel_rfl) (by simp) ?_
            refine AllReadyH.cons (o := ⟨none, _, _, _, _, _⟩) rfl (fun K hK => ?_) AllReadyH.nil
            go_simp
            refine hK.out _ _ ?_ (fun hHeld => ?_)
            · (try dsimp only); (first | assumption | exact ⟨y0, y1, y2, z0, z1, z2⟩ | exact ⟨y0', y1', y2', z0', z1', z2'⟩ | exact keep16s hXR y0' y1' y2' z0' z1' z2' _ _ _)
            clear hK K
            try dsimp only [Act.put]
            refine wpAnyH_take (i := 4) (oi := ⟨some 7, _, _, _, _, _⟩) (v := ?_) rfl (by kernel_rfl) (by kernel_rfl) (by kernel_rfl) (fun _ _ _ h => h) (Or.inl ⟨by rfl, ?_⟩) (by assumption) ?_
            rotate_left
            · intro w hSw; (try dsimp only at hSw); go_simp <;> with_reducible rfl
            try simp only [Act.put, List.setIfInBounds_toArray, List.set_cons_zero, List.set_cons_succ]
            refine wpAnyH_done (by kernel_rfl) ?_ _
            rotate_left
            go_wp2
            have HXZ := hid (HX.out.step b4)
            obtain ⟨q0, q1, q2⟩ := set3N HXZ.out.hr (.slice AW (2 * n) cW) (.slice (some ⟨Cb, 0, none⟩) 3 3) (.slice (some ⟨T, 0, none⟩) n n)
            refine bodyPost_ret (v := .tuple #[.agg #[(.slice AW (2 * n) cW), .slice (some ⟨Cb, 0, none⟩) 3 3, .slice (some ⟨T, 0, none⟩) n n], .bool true]) (by simp [results, Tryd.results36, go_sem, q0, q1, q2]) rfl ?_
            exact ⟨AW, cW, Cb, T, _, tv, av, rfl, by have h := own_res HXZ.out.own HXZ.out.hr (by decide) (.slice AW (2 * n) cW) (.slice (some ⟨Cb, 0, none⟩) 3 3) (.slice (some ⟨T, 0, none⟩) n n); rw [HWL.out] at h; exact h, HXZ.out.mn.res HXZ.out.hr _ _ _, ((HXZ.out.below.setCell (p := ⟨w.heap.size, 0, none⟩) (Nat.le_refl _) _).setCell (p := ⟨w.heap.size, 1, none⟩) (Nat.le_refl _) _).setCell (p := ⟨w.heap.size, 2, none⟩) (Nat.le_refl _) _⟩
end Go.Proofs.YtiinnkdhccgelaaDoor
