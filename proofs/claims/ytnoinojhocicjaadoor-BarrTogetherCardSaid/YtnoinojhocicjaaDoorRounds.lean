/-
  barographkeep.rounds: what it builds. Written by gen_rounds.py.
-/
import Derived.Test.YtnoinojhocicjaaDoorMBun
import Derived.Test.YtnoinojhocicjaaDoorRDef
import Derived.Deep.RegionHeld
namespace Go.Proofs.YtnoinojhocicjaaDoor
open Go.RowKit
set_option linter.unusedVariables false


/-- the first region -/
structure RoundsR (w0 : World) (Wv Iv Ov : Value) (work : Nat) (L : Nat → Bool) (x18 x19 x20 x21 x22 x23 x24 x25 x26 x14 : Value) (w : World) : Prop where
  b : Below w0.heap.size w0 w
  f0 : L 0 = true → x18 = Wv
  f1 : L 1 = true → x19 = Iv
  f2 : L 2 = true → x20 = Ov
  f3 : L 3 = true → x21 = .int .i64 (work : Int)
  f4 : L 4 = true → ∃ b, x22 = .slice (some ⟨b, 0, none⟩) work work ∧ w0.heap.size ≤ b ∧ Blk w b 81 (((List.replicate work (⟨0, 0, 0, 0, 0⟩ : Op5)).flatMap gO).toArray)
  f5 : L 5 = true → ∃ b, x23 = .slice (some ⟨b, 0, none⟩) 3 3 ∧ w0.heap.size ≤ b ∧ Blk w b 33 #[x19, x20, x22]
  f6 : L 6 = true → x24 = .int .i64 4
  f7 : L 7 = true → ∃ b, x25 = .slice (some ⟨b, 0, none⟩) 4 4 ∧ w0.heap.size ≤ b ∧ Blk w b 44 #[.slice none 0 0, .slice none 0 0, .slice none 0 0, .slice none 0 0]
  f8 : L 8 = true → x26 = .agg #[x18, x23, x25]
  f9 : L 9 = true → L 10 = false → ∃ b, x14 = .pointer (some ⟨b, 0, none⟩) ∧ w0.heap.size ≤ b ∧ Blk w b 27 #[.slice none 0 0, .slice none 0 0, .slice none 0 0]
  f10 : L 10 = true → ∃ b, x14 = .pointer (some ⟨b, 0, none⟩) ∧ w0.heap.size ≤ b ∧ Blk w b 27 #[x18, x23, x25]
section
variable {w0 : World} {Wv Iv Ov : Value} {work : Nat} {L : Nat → Bool} {x18 x19 x20 x21 x22 x23 x24 x25 x26 x14 : Value} {w w' : World}
theorem RoundsR.below (h : RoundsR w0 Wv Iv Ov work L x18 x19 x20 x21 x22 x23 x24 x25 x26 x14 w) (hb : Below w.heap.size w w') : RoundsR w0 Wv Iv Ov work L x18 x19 x20 x21 x22 x23 x24 x25 x26 x14 w' where
  b := bgo h.b hb
  f0 := h.f0
  f1 := h.f1
  f2 := h.f2
  f3 := h.f3
  f6 := h.f6
  f8 := h.f8
  f4 := fun e => by obtain ⟨b, h1, h2, h3⟩ := h.f4 e; exact ⟨b, h1, h2, h3.below' hb⟩
  f5 := fun e => by obtain ⟨b, h1, h2, h3⟩ := h.f5 e; exact ⟨b, h1, h2, h3.below' hb⟩
  f7 := fun e => by obtain ⟨b, h1, h2, h3⟩ := h.f7 e; exact ⟨b, h1, h2, h3.below' hb⟩
  f9 := fun e e' => by obtain ⟨b, h1, h2, h3⟩ := h.f9 e e'; exact ⟨b, h1, h2, h3.below' hb⟩
  f10 := fun e => by obtain ⟨b, h1, h2, h3⟩ := h.f10 e; exact ⟨b, h1, h2, h3.below' hb⟩
theorem RoundsR.store {X : Nat} {L' : Nat → Bool} (h : RoundsR w0 Wv Iv Ov work L x18 x19 x20 x21 x22 x23 x24 x25 x26 (.pointer (some ⟨X, 0, none⟩)) w) (hX : w0.heap.size ≤ X) (hb : Blk w X 27 #[.slice none 0 0, .slice none 0 0, .slice none 0 0]) (hL : ∀ i, i ≠ 10 → L' i = L i) (h9 : L' 10 = true) : RoundsR w0 Wv Iv Ov work L' x18 x19 x20 x21 x22 x23 x24 x25 x26 (.pointer (some ⟨X, 0, none⟩)) (((w.setCell ⟨X, 0, none⟩ x18).setCell ⟨X, 1, none⟩ x23).setCell ⟨X, 2, none⟩ x25) := by
  have hC : Chg (fun k => k = X) w (((w.setCell ⟨X, 0, none⟩ x18).setCell ⟨X, 1, none⟩ x23).setCell ⟨X, 2, none⟩ x25) :=
    (((Chg.refl (fun k => k = X) w).setCell (p := ⟨X, 0, none⟩) (fun _ => rfl) _).setCell (p := ⟨X, 1, none⟩) (fun _ => rfl) _).setCell (p := ⟨X, 2, none⟩) (fun _ => rfl) _
  have bk : ∀ {g t : Nat} {cs : Array Value}, t ≠ 27 → Blk w g t cs → Blk (((w.setCell ⟨X, 0, none⟩ x18).setCell ⟨X, 1, none⟩ x23).setCell ⟨X, 2, none⟩ x25) g t cs := fun h1 h2 => hC.blk h2 fun e => by subst e; exact h1 (blk_ty h2 hb)
  have e0 := hL 0 (by decide)
  have e1 := hL 1 (by decide)
  have e2 := hL 2 (by decide)
  have e3 := hL 3 (by decide)
  have e4 := hL 4 (by decide)
  have e5 := hL 5 (by decide)
  have e6 := hL 6 (by decide)
  have e7 := hL 7 (by decide)
  have e8 := hL 8 (by decide)
  refine ⟨((h.b.setCell (p := ⟨X, 0, none⟩) hX _).setCell (p := ⟨X, 1, none⟩) hX _).setCell (p := ⟨X, 2, none⟩) hX _, ?_, ?_, ?_, ?_, ?_, ?_, ?_, ?_, ?_, ?_, ?_⟩
  · rw [e0]; exact h.f0
  · rw [e1]; exact h.f1
  · rw [e2]; exact h.f2
  · rw [e3]; exact h.f3
  · rw [e4]; intro e; obtain ⟨b, h1, h2, h3⟩ := h.f4 e; exact ⟨b, h1, h2, bk (by decide) h3⟩
  · rw [e5]; intro e; obtain ⟨b, h1, h2, h3⟩ := h.f5 e; exact ⟨b, h1, h2, bk (by decide) h3⟩
  · rw [e6]; exact h.f6
  · rw [e7]; intro e; obtain ⟨b, h1, h2, h3⟩ := h.f7 e; exact ⟨b, h1, h2, bk (by decide) h3⟩
  · rw [e8]; exact h.f8
  · intro _ e; rw [h9] at e; cases e
  · intro _; exact ⟨X, rfl, hX, ((hb.set_ 0 _).set_ 1 _).set_ 2 _⟩
end
/-- what rounds gives -/
def RoundsPost (W0 : World) (g0 : Nat) (cs0 : Array Value) (AW : Option Addr) (nw cw : Nat) (ws : List Int) (k1 k2 : List Op5) (often work : Nat) (e : Ending) (w' : World) : Prop :=
  ∃ (Cb T : Nat) (cv tv : Nat → Value) (av : Nat → List SV), e = .returned (.tuple #[.agg #[.slice AW nw cw, .slice (some ⟨Cb, 0, none⟩) 3 3, .slice (some ⟨T, 0, none⟩) 4 4], .bool true]) ∧
    MEnd W0 w' g0 cs0 Cb T 3 4 (.slice AW nw cw) ws cv (fun i => [k1, k2, lops work work].getD i []) tv (rths often work 4 0) av
theorem rmach_at {B : Nat} {w : World} {Cb T : Nat} {cv tv : Nat → Value} {av : Nat → List SV} {ws : List Int} {k1 k2 : List Op5} {often work n1 n2 : Nat} (h : MN B w 3 4 Cb T cv (fun i => [k1, k2, lops work work].getD i []) tv (rths often work 4 0) av)
    (hw : work ≤ 200) (ho : often ≤ 6) (q1 : n1 ≤ 200) (q2 : n2 ≤ 200) (e1 : k1.length = n1) (e2 : k2.length = n2) (s1 : ∀ o ∈ k1, OpSh k1.length o) (s2 : ∀ o ∈ k2, OpSh k2.length o) : MachAt w (some ⟨Cb, 0, none⟩) 3 (some ⟨T, 0, none⟩) 4 (rmach ws k1 k2 often work) := by
  refine h.at_ rfl rfl (fun i hi => ?_) (fun j hj => ?_)
  · rcases (show i = 0 ∨ i = 1 ∨ i = 2 by omega) with rfl | rfl | rfl
    · exact ⟨by show k1.length ≤ 200; omega, s1⟩
    · exact ⟨by show k2.length ≤ 200; omega, s2⟩
    · exact ⟨by show (lops work work).length ≤ 200; rw [lops_len (Nat.le_refl _)]; exact hw, lops_sh work⟩
  · have e : rths often work 4 0 j = rcalls work often := by unfold rths; rw [if_pos hj]
    rw [e]
    exact ⟨by have := rcalls_len work often; omega, rcalls_mem work often⟩
theorem keep16 {w w' : World} {p0 p1 p2 r0 r1 r2 : Addr} {u0 u1 u2 v0 v1 v2 : Value} (b : Below w.heap.size w w') (y0 : w.cell? p0 = some u0) (y1 : w.cell? p1 = some u1) (y2 : w.cell? p2 = some u2) (z0 : w.frozen? r0 = false) (z1 : w.frozen? r1 = false) (z2 : w.frozen? r2 = false) (z3 : w.cell? r0 = some v0) (z4 : w.cell? r1 = some v1) (z5 : w.cell? r2 = some v2) :
    w'.cell? p0 = some u0 ∧ w'.cell? p1 = some u1 ∧ w'.cell? p2 = some u2 ∧ w'.frozen? r0 = false ∧ w'.frozen? r1 = false ∧ w'.frozen? r2 = false ∧ w'.cell? r0 = some v0 ∧ w'.cell? r1 = some v1 ∧ w'.cell? r2 = some v2 :=
  ⟨cell_below b y0, cell_below b y1, cell_below b y2, frozen_below b z3 z0, frozen_below b z4 z1, frozen_below b z5 z2, cell_below b z3, cell_below b z4, cell_below b z5⟩
theorem keep16s {w : World} {X R : Nat} {u0 u1 u2 : Value} (hne : X ≠ R) (y0 : w.cell? ⟨X, 0, none⟩ = some u0) (y1 : w.cell? ⟨X, 1, none⟩ = some u1) (y2 : w.cell? ⟨X, 2, none⟩ = some u2) (z0 : w.frozen? ⟨R, 0, none⟩ = false) (z1 : w.frozen? ⟨R, 1, none⟩ = false) (z2 : w.frozen? ⟨R, 2, none⟩ = false) (a b c : Value) :
    (((w.setCell ⟨R, 0, none⟩ a).setCell ⟨R, 1, none⟩ b).setCell ⟨R, 2, none⟩ c).cell? ⟨X, 0, none⟩ = some u0 ∧ (((w.setCell ⟨R, 0, none⟩ a).setCell ⟨R, 1, none⟩ b).setCell ⟨R, 2, none⟩ c).cell? ⟨X, 1, none⟩ = some u1 ∧ (((w.setCell ⟨R, 0, none⟩ a).setCell ⟨R, 1, none⟩ b).setCell ⟨R, 2, none⟩ c).cell? ⟨X, 2, none⟩ = some u2 ∧
    (((w.setCell ⟨R, 0, none⟩ a).setCell ⟨R, 1, none⟩ b).setCell ⟨R, 2, none⟩ c).frozen? ⟨R, 0, none⟩ = false ∧ (((w.setCell ⟨R, 0, none⟩ a).setCell ⟨R, 1, none⟩ b).setCell ⟨R, 2, none⟩ c).frozen? ⟨R, 1, none⟩ = false ∧ (((w.setCell ⟨R, 0, none⟩ a).setCell ⟨R, 1, none⟩ b).setCell ⟨R, 2, none⟩ c).frozen? ⟨R, 2, none⟩ = false := by
  refine ⟨?_, ?_, ?_, ?_, ?_, ?_⟩
  · rw [World.cell?_setCell_far, World.cell?_setCell_far, World.cell?_setCell_far] <;> first | exact y0 | exact fun e => hne e.symm
  · rw [World.cell?_setCell_far, World.cell?_setCell_far, World.cell?_setCell_far] <;> first | exact y1 | exact fun e => hne e.symm
  · rw [World.cell?_setCell_far, World.cell?_setCell_far, World.cell?_setCell_far] <;> first | exact y2 | exact fun e => hne e.symm
  · simp only [World.frozen?_setCell]; exact z0
  · simp only [World.frozen?_setCell]; exact z1
  · simp only [World.frozen?_setCell]; exact z2
set_option maxHeartbeats 8000000 in
set_option maxRecDepth 100000 in
theorem rounds_of (W0 : World) (g0 : Nat) (cs0 : Array Value) (AW A1 A2 : Option Addr) (nw cw n1 m1 n2 m2 : Nat) (ws : List Int) (k1 k2 : List Op5) (often work : Nat) (w : World)
    (hB0 : Below W0.heap.size W0 w) (hg : Blk w g0 27 cs0) (hws : w.ownsRow W0.heap.size 3 1 (.slice AW nw cw) nw (ws.flatMap gI)) (hnw : ws.length = nw) (hnw2 : nw ≤ 200)
    (hk1 : w.ownsRow W0.heap.size 81 5 (.slice A1 n1 m1) n1 (k1.flatMap gO)) (hk2 : w.ownsRow W0.heap.size 81 5 (.slice A2 n2 m2) n2 (k2.flatMap gO)) (hn1 : k1.length = n1) (hn2 : k2.length = n2)
    (p1 : 0 < n1) (p2 : 0 < n2) (q1 : n1 ≤ 200) (q2 : n2 ≤ 200) (s1 : ∀ o ∈ k1, OpSh k1.length o) (s2 : ∀ o ∈ k2, OpSh k2.length o) (hwork : work ≤ 40) (hoften : often ≤ 6) (hT : STab W0) :
    Calls Tryd.prog 59 #[.slice AW nw cw, .slice A1 n1 m1, .slice A2 n2 m2, .int .i64 4, .int .i64 (often : Int), .int .i64 (work : Int)] w fun e w' => RoundsPost W0 g0 cs0 AW nw cw ws k1 k2 often work e w' := by
  have hB0 := hid hB0; have HG := hid hg; have HWS := hid hws; have HK1 := hid hk1; have HK2 := hid hk2; have HNW := hid hnw; have HN1 := hid hn1; have HN2 := hid hn2; have HT := hid hT; have HS1 := hid s1; have HS2 := hid s2
  clear hg hws hk1 hk2 hnw hn1 hn2 hT s1 s2
  have hwork : work ≤ 1000 := by omega
  have hwork4 : work ≤ 40 := by assumption
  have pi1 : (0 : Int) < (n1 : Int) := by omega
  have pi2 : (0 : Int) < (n2 : Int) := by omega
  go_enter Tryd.func59, Tryd.ntmps59
  go_upto_region 1 with fail
  obtain ⟨w0, hw0⟩ : ∃ w0, w.alloc (.cells #[.slice none 0 0, .slice none 0 0, .slice none 0 0] 27) = w0 := ⟨_, rfl⟩
  rw [hw0]
  have B0 := hid (show Below w.heap.size w w0 by rw [← hw0]; exact bnew (bnil w) _)
  have RB := hid (show Blk w0 w.heap.size 27 #[.slice none 0 0, .slice none 0 0, .slice none 0 0] by rw [← hw0]; exact Blk.new w _ _)
  clear hw0
  have B00 := B0.out.size
  refine wp_region_inv (by kernel_rfl) (fun a0 L a wr => ∃ x18 x19 x20 x21 x22 x23 x24 x25 x26 x14, a = ((((((((((a0.put (some 18) x18).put (some 19) x19).put (some 20) x20).put (some 21) x21).put (some 22) x22).put (some 23) x23).put (some 24) x24).put (some 25) x25).put (some 26) x26).put (some 14) x14) ∧ RoundsR w0 (.slice AW nw cw) (.slice A1 n1 m1) (.slice A2 n2 m2) work L x18 x19 x20 x21 x22 x23 x24 x25 x26 x14 wr) (by kernel_rfl) ?_ ?_ ?_
  · exact ⟨undef, undef, undef, undef, undef, undef, undef, undef, undef, undef, by kernel_rfl, ⟨(bnil w0).drew, (fun h => by cases h), (fun h => by cases h), (fun h => by cases h), (fun h => by cases h), (fun h => by cases h), (fun h => by cases h), (fun h => by cases h), (fun h => by cases h), (fun h => by cases h), (fun h => by cases h), (fun h => by cases h)⟩⟩
  · intro j hj L b wr hR hLj hcl hpre
    obtain ⟨x18, x19, x20, x21, x22, x23, x24, x25, x26, x14, rfl, H⟩ := hR
    have hj' : j = 0 ∨ j = 1 ∨ j = 2 ∨ j = 3 ∨ j = 4 ∨ j = 5 ∨ j = 6 ∨ j = 7 ∨ j = 8 ∨ j = 9 ∨ j = 10 := by
      have : j < 11 := hj
      omega
    have lt0 := H.b.size
    rcases hj' with rfl | rfl | rfl | rfl | rfl | rfl | rfl | rfl | rfl | rfl | rfl
    · have n8 : L 8 ≠ true := fun e => by have := hcl 8 0 (by kernel_rfl) e; rw [hLj] at this; cases this
      have n10 : L 10 ≠ true := fun e => by have := hcl 10 0 (by kernel_rfl) e; rw [hLj] at this; cases this
      clear hcl hpre
      refine wpOp_at rfl rfl fun K hK => ?_
      go_simp
      exact hK _ _ ⟨.slice AW nw cw, x19, x20, x21, x22, x23, x24, x25, x26, x14, by kernel_rfl, ⟨H.b, fun _ => rfl, H.f1, H.f2, H.f3, H.f4, H.f5, H.f6, H.f7, fun e => absurd e n8, H.f9, fun e => absurd e n10⟩⟩
    · have n5 : L 5 ≠ true := fun e => by have := hcl 5 1 (by kernel_rfl) e; rw [hLj] at this; cases this
      clear hcl hpre
      refine wpOp_at rfl rfl fun K hK => ?_
      go_simp
      exact hK _ _ ⟨x18, .slice A1 n1 m1, x20, x21, x22, x23, x24, x25, x26, x14, by kernel_rfl, ⟨H.b, H.f0, fun _ => rfl, H.f2, H.f3, H.f4, fun e => absurd e n5, H.f6, H.f7, H.f8, H.f9, H.f10⟩⟩
    · have n5 : L 5 ≠ true := fun e => by have := hcl 5 2 (by kernel_rfl) e; rw [hLj] at this; cases this
      clear hcl hpre
      refine wpOp_at rfl rfl fun K hK => ?_
      go_simp
      exact hK _ _ ⟨x18, x19, .slice A2 n2 m2, x21, x22, x23, x24, x25, x26, x14, by kernel_rfl, ⟨H.b, H.f0, H.f1, fun _ => rfl, H.f3, H.f4, fun e => absurd e n5, H.f6, H.f7, H.f8, H.f9, H.f10⟩⟩
    · clear hcl hpre
      refine wpOp_at rfl rfl fun K hK => ?_
      go_simp
      exact hK _ _ ⟨x18, x19, x20, .int .i64 (work : Int), x22, x23, x24, x25, x26, x14, by kernel_rfl, ⟨H.b, H.f0, H.f1, H.f2, fun _ => rfl, H.f4, H.f5, H.f6, H.f7, H.f8, H.f9, H.f10⟩⟩
    · have n5 : L 5 ≠ true := fun e => by have := hcl 5 4 (by kernel_rfl) e; rw [hLj] at this; cases this
      have e3 := H.f3 (hpre 3 (by kernel_rfl))
      clear hcl hpre
      refine wpOp_at rfl rfl fun K hK => ?_
      subst e3
      have hmk := mkOps wr work hwork
      go_simp
      have Hb := H.below (bnew (bnil wr) (.cells (((List.replicate work (⟨0, 0, 0, 0, 0⟩ : Op5)).flatMap gO).toArray) 81))
      exact hK _ _ ⟨x18, x19, x20, _, .slice (some ⟨wr.heap.size, 0, none⟩) work work, x23, x24, x25, x26, x14, by kernel_rfl, ⟨Hb.b, Hb.f0, Hb.f1, Hb.f2, Hb.f3, fun _ => ⟨wr.heap.size, rfl, lt0, Blk.new wr _ _⟩, fun e => absurd e n5, Hb.f6, Hb.f7, Hb.f8, Hb.f9, Hb.f10⟩⟩
    · have n8 : L 8 ≠ true := fun e => by have := hcl 8 5 (by kernel_rfl) e; rw [hLj] at this; cases this
      have n10 : L 10 ≠ true := fun e => by have := hcl 10 5 (by kernel_rfl) e; rw [hLj] at this; cases this
      have e1 := H.f1 (hpre 1 (by kernel_rfl))
      have e2 := H.f2 (hpre 2 (by kernel_rfl))
      obtain ⟨b4, e4, _⟩ := H.f4 (hpre 4 (by kernel_rfl))
      clear hcl hpre
      refine wpOp_at rfl rfl fun K hK => ?_
      subst e1; subst e2; subst e4
      go_simp
      have Hb := H.below (bnew (bnil wr) (.cells #[.slice A1 n1 m1, .slice A2 n2 m2, .slice (some ⟨b4, 0, none⟩) work work] 33))
      exact hK _ _ ⟨x18, _, _, x21, _, .slice (some ⟨wr.heap.size, 0, none⟩) 3 3, x24, x25, x26, x14, by kernel_rfl, ⟨Hb.b, Hb.f0, Hb.f1, Hb.f2, Hb.f3, Hb.f4, fun _ => ⟨wr.heap.size, rfl, lt0, Blk.new wr _ _⟩, Hb.f6, Hb.f7, fun e => absurd e n8, Hb.f9, fun e => absurd e n10⟩⟩
    · clear hcl hpre
      refine wpOp_at rfl rfl fun K hK => ?_
      go_simp
      exact hK _ _ ⟨x18, x19, x20, x21, x22, x23, .int .i64 4, x25, x26, x14, by kernel_rfl, ⟨H.b, H.f0, H.f1, H.f2, H.f3, H.f4, H.f5, fun _ => rfl, H.f7, H.f8, H.f9, H.f10⟩⟩
    · have n8 : L 8 ≠ true := fun e => by have := hcl 8 7 (by kernel_rfl) e; rw [hLj] at this; cases this
      have n10 : L 10 ≠ true := fun e => by have := hcl 10 7 (by kernel_rfl) e; rw [hLj] at this; cases this
      have e6 := H.f6 (hpre 6 (by kernel_rfl))
      clear hcl hpre
      refine wpOp_at rfl rfl fun K hK => ?_
      subst e6
      have hmk := mkT4 wr
      go_simp
      have Hb := H.below (bnew (bnil wr) (.cells #[.slice none 0 0, .slice none 0 0, .slice none 0 0, .slice none 0 0] 44))
      exact hK _ _ ⟨x18, x19, x20, x21, x22, x23, _, .slice (some ⟨wr.heap.size, 0, none⟩) 4 4, x26, x14, by kernel_rfl, ⟨Hb.b, Hb.f0, Hb.f1, Hb.f2, Hb.f3, Hb.f4, Hb.f5, Hb.f6, fun _ => ⟨wr.heap.size, rfl, lt0, Blk.new wr _ _⟩, fun e => absurd e n8, Hb.f9, fun e => absurd e n10⟩⟩
    · have n10 : L 10 ≠ true := fun e => by have := hcl 10 8 (by kernel_rfl) e; rw [hLj] at this; cases this
      have e0 := H.f0 (hpre 0 (by kernel_rfl))
      obtain ⟨b5, e5, _⟩ := H.f5 (hpre 5 (by kernel_rfl))
      obtain ⟨b7, e7, _⟩ := H.f7 (hpre 7 (by kernel_rfl))
      clear hcl hpre
      refine wpOp_at rfl rfl fun K hK => ?_
      subst e0; subst e5; subst e7
      go_simp
      exact hK _ _ ⟨_, x19, x20, x21, x22, _, x24, _, _, x14, by kernel_rfl, ⟨H.b, H.f0, H.f1, H.f2, H.f3, H.f4, H.f5, H.f6, H.f7, fun _ => rfl, H.f9, fun e => absurd e n10⟩⟩
    · have n10 : L 10 ≠ true := fun e => by have := hcl 10 9 (by kernel_rfl) e; rw [hLj] at this; cases this
      clear hcl hpre
      refine wpOp_at rfl rfl fun K hK => ?_
      go_simp
      have Hb := H.below (bnew (bnil wr) (.cells #[.slice none 0 0, .slice none 0 0, .slice none 0 0] 27))
      exact hK _ _ ⟨x18, x19, x20, x21, x22, x23, x24, x25, x26, .pointer (some ⟨wr.heap.size, 0, none⟩), by kernel_rfl, ⟨Hb.b, Hb.f0, Hb.f1, Hb.f2, Hb.f3, Hb.f4, Hb.f5, Hb.f6, Hb.f7, Hb.f8, fun _ _ => ⟨wr.heap.size, rfl, lt0, Blk.new wr _ _⟩, fun e => absurd e n10⟩⟩
    · have e8 := H.f8 (hpre 8 (by kernel_rfl))
      have e0 := H.f0 (hcl 8 0 (by kernel_rfl) (hpre 8 (by kernel_rfl)))
      obtain ⟨b5, e5, _⟩ := H.f5 (hcl 8 5 (by kernel_rfl) (hpre 8 (by kernel_rfl)))
      obtain ⟨b7, e7, _⟩ := H.f7 (hcl 8 7 (by kernel_rfl) (hpre 8 (by kernel_rfl)))
      obtain ⟨X, eM, hX, hB⟩ := H.f9 (hpre 9 (by kernel_rfl)) hLj
      clear hcl hpre
      refine wpOp_at rfl rfl fun K hK => ?_
      subst e8; subst e0; subst e5; subst e7; subst eM
      have q0 := hB.cell 0; have q1 := hB.cell 1; have q2 := hB.cell 2
      have r0 := hB.frozen 0; have r1 := hB.frozen 1; have r2 := hB.frozen 2
      go_simp
      exact hK _ _ ⟨_, x19, x20, x21, x22, _, x24, _, _, _, by kernel_rfl, H.store hX hB (fun i hi => by simp [hi]) (by simp)⟩
  · intro L b wr hR hall
    obtain ⟨x18, x19, x20, x21, x22, x23, x24, x25, x26, x14, rfl, H⟩ := hR
    obtain ⟨X, rfl, hX, hB⟩ := H.f10 (hall 10 (by decide))
    obtain rfl := H.f0 (hall 0 (by decide))
    obtain ⟨Cb, rfl, hC, hCB⟩ := H.f5 (hall 5 (by decide))
    obtain ⟨T, rfl, hT, hTB⟩ := H.f7 (hall 7 (by decide))
    obtain ⟨bk, rfl, hbk, hBK⟩ := H.f4 (hall 4 (by decide))
    obtain rfl := H.f1 (hall 1 (by decide))
    obtain rfl := H.f2 (hall 2 (by decide))
    have B1 := H.b
    have bw := Nat.le_trans hB0.out.size B00
    have MM := hid (MN.start (B := W0.heap.size) (w := wr) (nc := 3) (nt := 4) (cv := (fun i => [Value.slice A1 n1 m1, .slice A2 n2 m2, .slice (some ⟨bk, 0, none⟩) work work].getD i undef)) (ks := fun i => [k1, k2, List.replicate work ⟨0, 0, 0, 0, 0⟩].getD i []) (v := fun _ => undef) (Nat.le_trans bw hC) (Nat.le_trans bw hT) hCB hTB (fun i hi => by
      rcases (show i = 0 ∨ i = 1 ∨ i = 2 by omega) with rfl | rfl | rfl
      · show wr.ownsRow W0.heap.size 81 5 (.slice A1 n1 m1) k1.length (k1.flatMap gO)
        rw [HN1.out]; exact own_below (own_below HK1.out B0.out) B1
      · show wr.ownsRow W0.heap.size 81 5 (.slice A2 n2 m2) k2.length (k2.flatMap gO)
        rw [HN2.out]; exact own_below (own_below HK2.out B0.out) B1
      · show wr.ownsRow W0.heap.size 81 5 (.slice (some ⟨bk, 0, none⟩) work work) (List.replicate work (⟨0, 0, 0, 0, 0⟩ : Op5)).length ((List.replicate work (⟨0, 0, 0, 0, 0⟩ : Op5)).flatMap gO)
        rw [List.length_replicate]
        refine ⟨by rw [flatMap_len gO 5 (fun _ => rfl), List.length_replicate], .inr ⟨bk, work, _, rfl, Nat.le_trans bw hbk, hBK, Nat.le_refl _, by unfold maxLen; omega, ?_, ?_⟩⟩
        · rw [List.size_toArray, flatMap_len gO 5 (fun _ => rfl), List.length_replicate]
        · rw [List.take_of_length_le]; rw [flatMap_len gO 5 (fun _ => rfl), List.length_replicate]; omega))
    have BU := hid (show MBun W0 wr g0 cs0 w.heap.size X Cb T 3 4 (.slice AW nw cw) ws (fun i => [Value.slice A1 n1 m1, .slice A2 n2 m2, .slice (some ⟨bk, 0, none⟩) work work].getD i undef) (fun i => [k1, k2, List.replicate work ⟨0, 0, 0, 0, 0⟩].getD i []) (fun _ => .slice none 0 0) (fun _ => []) (fun _ => []) from
      ⟨bgo (bgo hB0.out B0.out) B1, (HG.out.below' B0.out).below' B1, RB.out.below' B1, hB, by rw [HNW.out]; exact own_below (own_below HWS.out B0.out) B1, MM.out⟩)
    have HAP := hid (show ∀ i, i < 3 → i ≠ 2 → ((fun i => [Value.slice A1 n1 m1, .slice A2 n2 m2, .slice (some ⟨bk, 0, none⟩) work work].getD i undef) i).ownBlock ≠ some bk from fun i hi h2 hb => by
      rcases (show i = 0 ∨ i = 1 by omega) with rfl | rfl
      · have h1 := (own_ge HK1.out bk hb).2; omega
      · have h1 := (own_ge HK2.out bk hb).2; omega)
    clear MM hB hCB hTB hBK hX hC hT hbk H hall B1
    go_wp2
    go_loopw [15] (fun v wx => ∃ (k : Nat), k ≤ work ∧ v = .int .i64 k ∧ Hid (MBun W0 wx g0 cs0 w.heap.size X Cb T 3 4 (.slice AW nw cw) ws (fun i => [Value.slice A1 n1 m1, .slice A2 n2 m2, .slice (some ⟨bk, 0, none⟩) work work].getD i undef) (fun i => [k1, k2, lops k work].getD i []) (fun _ => .slice none 0 0) (fun _ => []) (fun _ => []))) (fun v _ => work - (intOf v).toNat)
    case atStart => exact ⟨0, Nat.zero_le _, rfl, (by rw [lops_zero]; exact BU)⟩
    case round =>
      clear BU
      obtain ⟨k, hkw, rfl, HX⟩ := hrel
      by_cases h1 : k < work
      · have i1 : (k : Int) < (work : Int) := by omega
        have y1 : wr.cell? ⟨X, 1, none⟩ = some (.slice (some ⟨Cb, 0, none⟩) 3 3) := HX.out.hx.cell 1
        have y2 : wr.cell? ⟨Cb, 2, none⟩ = some (.slice (some ⟨bk, 0, none⟩) work work) := HX.out.mn.cb.cell 2
        have ho := HX.out.mn.os 2 (by decide)
        obtain ⟨bb, c8, e8, _, hcl8⟩ := own_at ho (by show 0 < (lops k work).length; rw [lops_len hkw]; omega)
        injection e8 with e8 e9 e10; injection e8 with e8; injection e8 with e8
        subst e8
        have hf : ∀ i, wr.frozen? ⟨bk, i, none⟩ = false := fun i => by
          rcases ho.2 with ⟨h0, _⟩ | ⟨g, cap, cur, hv, hb, hh, _⟩
          · cases h0
          · injection hv with hv; injection hv with hv; injection hv with hv
            subst hv
            exact Blk.frozen hh i
        have hc : ∀ j, j < 5 → ∃ u, wr.cell? ⟨bk, k * 5 + j, none⟩ = some u := fun j hj => by
          have hl : k * 5 + j < (([k1, k2, lops k work].getD 2 []).flatMap gO).length := by
            rw [flatMap_len gO 5 (fun _ => rfl)]
            show k * 5 + j < (lops k work).length * 5
            rw [lops_len hkw]; omega
          exact ⟨_, hcl8 _ _ (List.getElem?_eq_getElem hl)⟩
        obtain ⟨u0, z0⟩ := hc 0 (by decide)
        obtain ⟨u1, z1⟩ := hc 1 (by decide)
        obtain ⟨u2, z2⟩ := hc 2 (by decide)
        obtain ⟨u3, z3⟩ := hc 3 (by decide)
        obtain ⟨u4, z4⟩ := hc 4 (by decide)
        rw [Nat.add_zero] at z0
        have g0' := hf (k * 5)
        have g1 := hf (k * 5 + 1)
        have g2 := hf (k * 5 + 2)
        have g3 := hf (k * 5 + 3)
        have g4 := hf (k * 5 + 4)
        have HN := hid (HX.out.op5 (i0 := 2) (bk := bk) (n := work) (c := work) (k := k) (by decide) rfl (lops_len hkw) HAP.out h1 ⟨1, 0, (k : Int), 0, 0⟩)
        rw [getD3] at HN
        have HN := hid (show MBun W0 _ g0 cs0 w.heap.size X Cb T 3 4 (.slice AW nw cw) ws (fun i => [Value.slice A1 n1 m1, .slice A2 n2 m2, .slice (some ⟨bk, 0, none⟩) work work].getD i undef) (fun i => [k1, k2, lops (k + 1) work].getD i []) _ _ _ by have h := HN.out; rw [show ([k1, k2, lops k work].getD 2 [] : List Op5) = lops k work from rfl, lops_set h1] at h; exact h)
        clear hf hc hcl8 ho e9 e10
        go_wp2
        go_roundw
        case rel => exact ⟨k + 1, h1, by go_num, HN⟩
        case measure => simp [intOf]; omega
      · obtain rfl : k = work := by omega
        have i1 : ¬ (k : Int) < (k : Int) := by omega
        go_wp2
        go_loopw [16] (fun v wx => ∃ (t : Nat) (tv : Nat → Value) (av : Nat → List SV), t ≤ 4 ∧ v = .int .i64 t ∧ Hid (MBun W0 wx g0 cs0 w.heap.size X Cb T 3 4 (.slice AW nw cw) ws (fun i => [Value.slice A1 n1 m1, .slice A2 n2 m2, .slice (some ⟨bk, 0, none⟩) k k].getD i undef) (fun i => [k1, k2, lops k k].getD i []) tv (rths often k t 0) av)) (fun v _ => 4 - (intOf v).toNat)
        case atStart => exact ⟨0, _, _, Nat.zero_le _, rfl, (by rw [rths_zero]; exact HX)⟩
        case round =>
          clear HX
          obtain ⟨work, hwk⟩ : ∃ work, work = k := ⟨_, rfl⟩
          subst hwk
          obtain ⟨t, tv, av, ht4, rfl, HX⟩ := hrel
          by_cases hk4 : t < 4
          · have i4 : (t : Int) < 4 := by omega
            go_wp2
            go_loopw [17] (fun v wy => ∃ (i : Nat) (tv : Nat → Value) (av : Nat → List SV), i ≤ often ∧ v = .int .i64 i ∧ Hid (MBun W0 wy g0 cs0 w.heap.size X Cb T 3 4 (.slice AW nw cw) ws (fun i => [Value.slice A1 n1 m1, .slice A2 n2 m2, .slice (some ⟨bk, 0, none⟩) work work].getD i undef) (fun i => [k1, k2, lops work work].getD i []) tv (rths often work t i) av)) (fun v _ => often - (intOf v).toNat)
            case atStart => exact ⟨0, tv, av, Nat.zero_le _, rfl, HX⟩
            case round =>
              clear HX
              clear tv av
              obtain ⟨i, tv, av, hio, rfl, HX⟩ := hrel
              by_cases hi : i < often
              · have i5 : (i : Int) < (often : Int) := by omega
                have HL15 := hid (show ((rths often work t i) t).length ≤ 15 by unfold rths; rw [if_neg (Nat.lt_irrefl _), if_pos rfl]; have := rcalls_len work i; omega)
                have HLNa := hid (show ((rths often work t i) t).length ≤ 18 by have := HL15.out; omega)
                go_upto_region 12 with fail
                obtain ⟨Aj, cj, hAj, HR0⟩ := HX.out.row hk4
                obtain ⟨L, hL⟩ : ∃ L, ((rths often work t i) t).length = L := ⟨_, rfl⟩
                rw [hL] at hAj HR0
                have hL18 : L ≤ 18 := by rw [← hL]; exact HLNa.out
                obtain ⟨y, hy⟩ : ∃ y, ((rths often work t i) t).zip (av t) ++ [((⟨0, []⟩ : VCall), (⟨none, 0, 0⟩ : SV))] = y := ⟨_, rfl⟩
                have HYE := hid hy
                have HYL := hid (show y.length = L + 1 by rw [← hy, List.length_append, HR0.len]; rfl)
                have HR := hid HR0
                have HAJ := hid hAj
                have c2 := HR.out.c2; have c3 := HR.out.c3; have f3 := HR.out.f3; have hcj := HR.out.hcj; have hcm := HR.out.hcm
                unfold maxLen at hcm
                clear hy HR0 hAj hL
                have ltT := World.block_lt_of_cell? wr _ c3
                have ltX := World.block_lt_of_cell? wr _ c2
                go_cut [] from 45 to 87 (fun wx => ∃ (tv2 : Nat → Value) (av2 : Nat → List SV), Hid (MBun W0 wx g0 cs0 w.heap.size X Cb T 3 4 (.slice AW nw cw) ws (fun i => [Value.slice A1 n1 m1, .slice A2 n2 m2, .slice (some ⟨bk, 0, none⟩) work work].getD i undef) (fun i => [k1, k2, lops work work].getD i []) tv2 (upd ((rths often work t i)) t (((rths often work t i)) t ++ [⟨0, []⟩])) av2))
                case first =>
                  refine wp_region_held_drew (S := (fun w' => w'.cell? ⟨X, 2, none⟩ = some (.slice (some ⟨T, 0, none⟩) 4 4) ∧ w'.frozen? ⟨T, t, none⟩ = false)) (by kernel_rfl) ?_ (fun hHeld => ?_)
                  · (try dsimp only); (first | assumption | exact ⟨c2, f3⟩ | exact HZ.1 | exact HZ.2.2 _ | (refine sees2f ?_ c2 c3 f3; (repeat (first | exact bnil _ | refine Below.drew ?_ | refine bnew ?_ _))))
                  refine wpAnyH_take (i := 0) (oi := ⟨some 50, _, _, _, _, _⟩) (v := ?_) rfl (by kernel_rfl) (by kernel_rfl) (by kernel_rfl) (fun _ _ _ h => h) (Or.inl ⟨by rfl, ?_⟩) (by assumption) ?_
                  rotate_left
                  · intro w hSw; (try dsimp only at hSw); go_simp <;> with_reducible rfl
                  try simp only [Act.put, List.setIfInBounds_toArray, List.set_cons_zero, List.set_cons_succ]
                  refine wpAnyH_take (i := 1) (oi := ⟨some 51, _, _, _, _, _⟩) (v := ?_) rfl (by kernel_rfl) (by kernel_rfl) (by kernel_rfl) (fun _ _ _ h => h) (Or.inl ⟨by rfl, ?_⟩) (by assumption) ?_
                  rotate_left
                  · intro w hSw; (try dsimp only at hSw); go_simp <;> with_reducible rfl
                  try simp only [Act.put, List.setIfInBounds_toArray, List.set_cons_zero, List.set_cons_succ]
                  refine wpAnyH_take (i := 2) (oi := ⟨some 52, _, _, _, _, _⟩) (v := ?_) rfl (by kernel_rfl) (by kernel_rfl) (by kernel_rfl) (fun _ _ _ h => h) (Or.inl ⟨by rfl, ?_⟩) (by assumption) ?_
                  rotate_left
                  · intro w hSw; (try dsimp only at hSw); go_simp <;> with_reducible rfl
                  try simp only [Act.put, List.setIfInBounds_toArray, List.set_cons_zero, List.set_cons_succ]
                  refine wpAnyH_take (i := 3) (oi := ⟨some 53, _, _, _, _, _⟩) (v := ?_) rfl (by kernel_rfl) (by kernel_rfl) (by kernel_rfl) (fun _ _ _ h => h) (Or.inl ⟨by rfl, ?_⟩) (by assumption) ?_
                  rotate_left
                  · intro w hSw; (try dsimp only at hSw); go_simp <;> with_reducible rfl
                  try simp only [Act.put, List.setIfInBounds_toArray, List.set_cons_zero, List.set_cons_succ]
                  refine wpAnyH_take (i := 4) (oi := ⟨some 54, _, _, _, _, _⟩) (v := ?_) rfl (by kernel_rfl) (by kernel_rfl) (by kernel_rfl) (fun _ _ _ h => h) (Or.inl ⟨by rfl, ?_⟩) (by assumption) ?_
                  rotate_left
                  · intro w hSw; (try dsimp only at hSw); go_simp <;> with_reducible rfl
                  try simp only [Act.put, List.setIfInBounds_toArray, List.set_cons_zero, List.set_cons_succ]
                  refine wpAnyH_take (i := 5) (oi := ⟨some 55, _, _, _, _, _⟩) (v := ?_) rfl (by kernel_rfl) (by kernel_rfl) (by kernel_rfl) (fun _ _ _ h => h) (Or.inl ⟨by rfl, ?_⟩) (by assumption) ?_
                  rotate_left
                  · intro w hSw; (try dsimp only at hSw); go_simp <;> with_reducible rfl
                  try simp only [Act.put, List.setIfInBounds_toArray, List.set_cons_zero, List.set_cons_succ]
                  refine wpAnyH_take (i := 6) (oi := ⟨some 56, _, _, _, _, _⟩) (v := ?_) rfl (by kernel_rfl) (by kernel_rfl) (by kernel_rfl) (fun _ _ _ h => h) (Or.inl ⟨by rfl, ?_⟩) (by assumption) ?_
                  rotate_left
                  · intro w hSw; (try dsimp only at hSw); go_simp <;> with_reducible rfl
                  try simp only [Act.put, List.setIfInBounds_toArray, List.set_cons_zero, List.set_cons_succ]
                  refine wpAnyH_take (i := 8) (oi := ⟨some 58, _, _, _, _, _⟩) (v := ?_) rfl (by kernel_rfl) (by kernel_rfl) (by kernel_rfl) (fun _ _ _ h => h) (Or.inl ⟨by rfl, ?_⟩) (by assumption) ?_
                  rotate_left
                  · intro w hSw; (try dsimp only at hSw); go_simp <;> with_reducible rfl
                  try simp only [Act.put, List.setIfInBounds_toArray, List.set_cons_zero, List.set_cons_succ]
                  refine wpAnyH_ready (rs := [7, 9]) (by kernel_rfl) (by simp) ?_
                  refine AllReadyH.cons (o := ⟨some 57, _, _, _, _, _⟩) rfl (fun K hK => ?_) ?_
                  go_simp
                  refine hK.out _ _ ?_ (fun hHeld => ?_)
                  · (try dsimp only); (first | assumption | exact ⟨c2, f3⟩ | exact HZ.1 | exact HZ.2.2 _ | (refine sees2f ?_ c2 c3 f3; (repeat (first | exact bnil _ | refine Below.drew ?_ | refine bnew ?_ _))))
                  clear hK K
                  try simp only [Act.put, List.setIfInBounds_toArray, List.set_cons_zero, List.set_cons_succ]
                  refine wpAnyH_ready (rs := [9]) (by kernel_rfl) (by simp) ?_
                  refine AllReadyH.cons (o := ⟨some 59, _, _, _, _, _⟩) rfl (fun K hK => ?_) AllReadyH.nil
                  go_simp
                  refine hK.out _ _ ?_ (fun hHeld => ?_)
                  · (try dsimp only); (first | assumption | exact ⟨c2, f3⟩ | exact HZ.1 | exact HZ.2.2 _ | (refine sees2f ?_ c2 c3 f3; (repeat (first | exact bnil _ | refine Below.drew ?_ | refine bnew ?_ _))))
                  clear hK K
                  try simp only [Act.put, List.setIfInBounds_toArray, List.set_cons_zero, List.set_cons_succ]
                  refine wpAnyH_ready (rs := [10]) (by kernel_rfl) (by simp) ?_
                  refine AllReadyH.cons (o := ⟨some 60, _, _, _, _, _⟩) rfl (fun K hK => ?_) AllReadyH.nil
                  (refine step_appC elmCN gS_one rfl (.tmp 57) (.tmp 59) rfl (.slice Aj L cj) (((rths often work t i) t).zip (av t)) rfl (HR.out.row _ (bnew (bnil _) _).drew) [((⟨0, []⟩ : VCall), (⟨none, 0, 0⟩ : SV))] y HYE rfl (Sl.drew (Sl.fresh' _ #[_, _] 46 2 1 _ (by simp) rfl)) rfl (by rw [HYL.out]; simp only [maxLen]; omega) (by rw [HYL.out]; omega) (Nat.le_trans HR.out.size (bnew (bnil _) _).drew.size) ?_; intro E6 c6 w6 hc6 hc7 HN6 HG6 HO6; have HZ := HR.out.grow _ w6 (bnew (bnil _) _).drew HG6.out)
                  refine hK.out _ _ ?_ (fun hHeld => ?_)
                  · (try dsimp only); (first | assumption | exact ⟨c2, f3⟩ | exact HZ.1 | exact HZ.2.2 _ | (refine sees2f ?_ c2 c3 f3; (repeat (first | exact bnil _ | refine Below.drew ?_ | refine bnew ?_ _))))
                  clear hK K
                  try simp only [Act.put, List.setIfInBounds_toArray, List.set_cons_zero, List.set_cons_succ]
                  refine wpAnyH_take (i := 11) (oi := ⟨some 61, _, _, _, _, _⟩) (v := ?_) rfl (by kernel_rfl) (by kernel_rfl) (by kernel_rfl) (fun _ _ _ h => h) (Or.inl ⟨by rfl, ?_⟩) (by assumption) ?_
                  rotate_left
                  · intro w hSw; (try dsimp only at hSw); go_simp <;> with_reducible rfl
                  try simp only [Act.put, List.setIfInBounds_toArray, List.set_cons_zero, List.set_cons_succ]
                  refine wpAnyH_ready (rs := [12]) (by kernel_rfl) (by simp) ?_
                  refine AllReadyH.cons (o := ⟨none, _, _, _, _, _⟩) rfl (fun K hK => ?_) AllReadyH.nil
                  go_simp
                  refine hK.out _ _ ?_ (fun hHeld => ?_)
                  · (try dsimp only); (first | assumption | exact ⟨c2, f3⟩ | exact HZ.1 | exact HZ.2.2 _ | (refine sees2f ?_ c2 c3 f3; (repeat (first | exact bnil _ | refine Below.drew ?_ | refine bnew ?_ _))))
                  clear hK K
                  try dsimp only [Act.put]
                  refine wpAnyH_done (by kernel_rfl) ?_ _
                  rotate_left
                  refine AllReadyH.cons (o := ⟨some 59, _, _, _, _, _⟩) rfl (fun K hK => ?_) AllReadyH.nil
                  go_simp
                  refine hK.out _ _ ?_ (fun hHeld => ?_)
                  · (try dsimp only); (first | assumption | exact ⟨c2, f3⟩ | exact HZ.1 | exact HZ.2.2 _ | (refine sees2f ?_ c2 c3 f3; (repeat (first | exact bnil _ | refine Below.drew ?_ | refine bnew ?_ _))))
                  clear hK K
                  try simp only [Act.put, List.setIfInBounds_toArray, List.set_cons_zero, List.set_cons_succ]
                  refine wpAnyH_ready (rs := [7]) (by kernel_rfl) (by simp) ?_
                  refine AllReadyH.cons (o := ⟨some 57, _, _, _, _, _⟩) rfl (fun K hK => ?_) AllReadyH.nil
                  go_simp
                  refine hK.out _ _ ?_ (fun hHeld => ?_)
                  · (try dsimp only); (first | assumption | exact ⟨c2, f3⟩ | exact HZ.1 | exact HZ.2.2 _ | (refine sees2f ?_ c2 c3 f3; (repeat (first | exact bnil _ | refine Below.drew ?_ | refine bnew ?_ _))))
                  clear hK K
                  try simp only [Act.put, List.setIfInBounds_toArray, List.set_cons_zero, List.set_cons_succ]
                  refine wpAnyH_ready (rs := [10]) (by kernel_rfl) (by simp) ?_
                  refine AllReadyH.cons (o := ⟨some 60, _, _, _, _, _⟩) rfl (fun K hK => ?_) AllReadyH.nil
                  (refine step_appC elmCN gS_one rfl (.tmp 57) (.tmp 59) rfl (.slice Aj L cj) (((rths often work t i) t).zip (av t)) rfl (HR.out.row _ (bnew (bnil _) _).drew) [((⟨0, []⟩ : VCall), (⟨none, 0, 0⟩ : SV))] y HYE rfl (Sl.drew (Sl.fresh' _ #[_, _] 46 2 1 _ (by simp) rfl)) rfl (by rw [HYL.out]; simp only [maxLen]; omega) (by rw [HYL.out]; omega) (Nat.le_trans HR.out.size (bnew (bnil _) _).drew.size) ?_; intro E6 c6 w6 hc6 hc7 HN6 HG6 HO6; have HZ := HR.out.grow _ w6 (bnew (bnil _) _).drew HG6.out)
                  refine hK.out _ _ ?_ (fun hHeld => ?_)
                  · (try dsimp only); (first | assumption | exact ⟨c2, f3⟩ | exact HZ.1 | exact HZ.2.2 _ | (refine sees2f ?_ c2 c3 f3; (repeat (first | exact bnil _ | refine Below.drew ?_ | refine bnew ?_ _))))
                  clear hK K
                  try simp only [Act.put, List.setIfInBounds_toArray, List.set_cons_zero, List.set_cons_succ]
                  refine wpAnyH_take (i := 11) (oi := ⟨some 61, _, _, _, _, _⟩) (v := ?_) rfl (by kernel_rfl) (by kernel_rfl) (by kernel_rfl) (fun _ _ _ h => h) (Or.inl ⟨by rfl, ?_⟩) (by assumption) ?_
                  rotate_left
                  · intro w hSw; (try dsimp only at hSw); go_simp <;> with_reducible rfl
                  try simp only [Act.put, List.setIfInBounds_toArray, List.set_cons_zero, List.set_cons_succ]
                  refine wpAnyH_ready (rs := [12]) (by kernel_rfl) (by simp) ?_
                  refine AllReadyH.cons (o := ⟨none, _, _, _, _, _⟩) rfl (fun K hK => ?_) AllReadyH.nil
                  go_simp
                  refine hK.out _ _ ?_ (fun hHeld => ?_)
                  · (try dsimp only); (first | assumption | exact ⟨c2, f3⟩ | exact HZ.1 | exact HZ.2.2 _ | (refine sees2f ?_ c2 c3 f3; (repeat (first | exact bnil _ | refine Below.drew ?_ | refine bnew ?_ _))))
                  clear hK K
                  try dsimp only [Act.put]
                  refine wpAnyH_done (by kernel_rfl) ?_ _
                  rotate_left
                  all_goals
                    have HF := hid (HX.out.app hk4 [⟨0, []⟩] [⟨none, 0, 0⟩] (bnew (bnil _) _).drew rfl (one_own2 0) HYE.out (by rw [HAJ.out]; exact HG6.out) (by rw [HAJ.out]; exact HO6.out) HN6.out)
                    clear HZ HG6 HO6 HN6
                    go_wp2
                    go_meet
                    exact ⟨_, _, HF⟩
                case rest =>
                  obtain ⟨tva2, ava2, HXa2⟩ := hcut
                  obtain ⟨wa2, hwa2⟩ : ∃ w2, w2 = wc := ⟨_, rfl⟩
                  subst hwa2
                  clear HR HAJ c2 c3 f3 hcj hcm ltT ltX HYE HYL y Aj cj hL18 L
                  obtain ⟨th1, hth1⟩ : ∃ th1, upd (rths often work t i) t ((rths often work t i) t ++ [⟨0, []⟩]) = th1 := ⟨_, rfl⟩
                  rw [hth1] at HXa2
                  have HLNb := hid (show (th1 t).length ≤ 18 by rw [← hth1, upd_same]; simp only [List.length_append, List.length_singleton]; have := HL15.out; omega)
                  have HTH1 := hid hth1
                  clear hth1
                  by_cases hw0 : 0 < work
                  · have iw0 : (0 : Int) < (work : Int) := by omega
                    go_upto_region 14 with fail
                    obtain ⟨Aj, cj, hAj, HR0⟩ := HXa2.out.row hk4
                    obtain ⟨L, hL⟩ : ∃ L, (th1 t).length = L := ⟨_, rfl⟩
                    rw [hL] at hAj HR0
                    have hL18 : L ≤ 18 := by rw [← hL]; exact HLNb.out
                    obtain ⟨y, hy⟩ : ∃ y, (th1 t).zip (ava2 t) ++ [((⟨2, []⟩ : VCall), (⟨none, 0, 0⟩ : SV))] = y := ⟨_, rfl⟩
                    have HYE := hid hy
                    have HYL := hid (show y.length = L + 1 by rw [← hy, List.length_append, HR0.len]; rfl)
                    have HR := hid HR0
                    have HAJ := hid hAj
                    have c2 := HR.out.c2; have c3 := HR.out.c3; have f3 := HR.out.f3; have hcj := HR.out.hcj; have hcm := HR.out.hcm
                    unfold maxLen at hcm
                    clear hy HR0 hAj hL
                    have ltT := World.block_lt_of_cell? wa2 _ c3
                    have ltX := World.block_lt_of_cell? wa2 _ c2
                    go_cut [] from 45 to 87 (fun wx => ∃ (tv2 : Nat → Value) (av2 : Nat → List SV), Hid (MBun W0 wx g0 cs0 w.heap.size X Cb T 3 4 (.slice AW nw cw) ws (fun i => [Value.slice A1 n1 m1, .slice A2 n2 m2, .slice (some ⟨bk, 0, none⟩) work work].getD i undef) (fun i => [k1, k2, lops work work].getD i []) tv2 (upd (th1) t ((th1) t ++ [⟨2, []⟩])) av2))
                    case first =>
                      refine wp_region_held_drew (S := (fun w' => w'.cell? ⟨X, 2, none⟩ = some (.slice (some ⟨T, 0, none⟩) 4 4) ∧ w'.frozen? ⟨T, t, none⟩ = false)) (by kernel_rfl) ?_ (fun hHeld => ?_)
                      · (try dsimp only); (first | assumption | exact ⟨c2, f3⟩ | exact HZ.1 | exact HZ.2.2 _ | (refine sees2f ?_ c2 c3 f3; (repeat (first | exact bnil _ | refine Below.drew ?_ | refine bnew ?_ _))))
                      refine wpAnyH_take (i := 0) (oi := ⟨some 64, _, _, _, _, _⟩) (v := ?_) rfl (by kernel_rfl) (by kernel_rfl) (by kernel_rfl) (fun _ _ _ h => h) (Or.inl ⟨by rfl, ?_⟩) (by assumption) ?_
                      rotate_left
                      · intro w hSw; (try dsimp only at hSw); go_simp <;> with_reducible rfl
                      try simp only [Act.put, List.setIfInBounds_toArray, List.set_cons_zero, List.set_cons_succ]
                      refine wpAnyH_take (i := 1) (oi := ⟨some 65, _, _, _, _, _⟩) (v := ?_) rfl (by kernel_rfl) (by kernel_rfl) (by kernel_rfl) (fun _ _ _ h => h) (Or.inl ⟨by rfl, ?_⟩) (by assumption) ?_
                      rotate_left
                      · intro w hSw; (try dsimp only at hSw); go_simp <;> with_reducible rfl
                      try simp only [Act.put, List.setIfInBounds_toArray, List.set_cons_zero, List.set_cons_succ]
                      refine wpAnyH_take (i := 2) (oi := ⟨some 66, _, _, _, _, _⟩) (v := ?_) rfl (by kernel_rfl) (by kernel_rfl) (by kernel_rfl) (fun _ _ _ h => h) (Or.inl ⟨by rfl, ?_⟩) (by assumption) ?_
                      rotate_left
                      · intro w hSw; (try dsimp only at hSw); go_simp <;> with_reducible rfl
                      try simp only [Act.put, List.setIfInBounds_toArray, List.set_cons_zero, List.set_cons_succ]
                      refine wpAnyH_take (i := 3) (oi := ⟨some 67, _, _, _, _, _⟩) (v := ?_) rfl (by kernel_rfl) (by kernel_rfl) (by kernel_rfl) (fun _ _ _ h => h) (Or.inl ⟨by rfl, ?_⟩) (by assumption) ?_
                      rotate_left
                      · intro w hSw; (try dsimp only at hSw); go_simp <;> with_reducible rfl
                      try simp only [Act.put, List.setIfInBounds_toArray, List.set_cons_zero, List.set_cons_succ]
                      refine wpAnyH_take (i := 4) (oi := ⟨some 68, _, _, _, _, _⟩) (v := ?_) rfl (by kernel_rfl) (by kernel_rfl) (by kernel_rfl) (fun _ _ _ h => h) (Or.inl ⟨by rfl, ?_⟩) (by assumption) ?_
                      rotate_left
                      · intro w hSw; (try dsimp only at hSw); go_simp <;> with_reducible rfl
                      try simp only [Act.put, List.setIfInBounds_toArray, List.set_cons_zero, List.set_cons_succ]
                      refine wpAnyH_take (i := 5) (oi := ⟨some 69, _, _, _, _, _⟩) (v := ?_) rfl (by kernel_rfl) (by kernel_rfl) (by kernel_rfl) (fun _ _ _ h => h) (Or.inl ⟨by rfl, ?_⟩) (by assumption) ?_
                      rotate_left
                      · intro w hSw; (try dsimp only at hSw); go_simp <;> with_reducible rfl
                      try simp only [Act.put, List.setIfInBounds_toArray, List.set_cons_zero, List.set_cons_succ]
                      refine wpAnyH_take (i := 6) (oi := ⟨some 70, _, _, _, _, _⟩) (v := ?_) rfl (by kernel_rfl) (by kernel_rfl) (by kernel_rfl) (fun _ _ _ h => h) (Or.inl ⟨by rfl, ?_⟩) (by assumption) ?_
                      rotate_left
                      · intro w hSw; (try dsimp only at hSw); go_simp <;> with_reducible rfl
                      try simp only [Act.put, List.setIfInBounds_toArray, List.set_cons_zero, List.set_cons_succ]
                      refine wpAnyH_take (i := 8) (oi := ⟨some 72, _, _, _, _, _⟩) (v := ?_) rfl (by kernel_rfl) (by kernel_rfl) (by kernel_rfl) (fun _ _ _ h => h) (Or.inl ⟨by rfl, ?_⟩) (by assumption) ?_
                      rotate_left
                      · intro w hSw; (try dsimp only at hSw); go_simp <;> with_reducible rfl
                      try simp only [Act.put, List.setIfInBounds_toArray, List.set_cons_zero, List.set_cons_succ]
                      refine wpAnyH_ready (rs := [7, 9]) (by kernel_rfl) (by simp) ?_
                      refine AllReadyH.cons (o := ⟨some 71, _, _, _, _, _⟩) rfl (fun K hK => ?_) ?_
                      go_simp
                      refine hK.out _ _ ?_ (fun hHeld => ?_)
                      · (try dsimp only); (first | assumption | exact ⟨c2, f3⟩ | exact HZ.1 | exact HZ.2.2 _ | (refine sees2f ?_ c2 c3 f3; (repeat (first | exact bnil _ | refine Below.drew ?_ | refine bnew ?_ _))))
                      clear hK K
                      try simp only [Act.put, List.setIfInBounds_toArray, List.set_cons_zero, List.set_cons_succ]
                      refine wpAnyH_ready (rs := [9]) (by kernel_rfl) (by simp) ?_
                      refine AllReadyH.cons (o := ⟨some 73, _, _, _, _, _⟩) rfl (fun K hK => ?_) AllReadyH.nil
                      go_simp
                      refine hK.out _ _ ?_ (fun hHeld => ?_)
                      · (try dsimp only); (first | assumption | exact ⟨c2, f3⟩ | exact HZ.1 | exact HZ.2.2 _ | (refine sees2f ?_ c2 c3 f3; (repeat (first | exact bnil _ | refine Below.drew ?_ | refine bnew ?_ _))))
                      clear hK K
                      try simp only [Act.put, List.setIfInBounds_toArray, List.set_cons_zero, List.set_cons_succ]
                      refine wpAnyH_ready (rs := [10]) (by kernel_rfl) (by simp) ?_
                      refine AllReadyH.cons (o := ⟨some 74, _, _, _, _, _⟩) rfl (fun K hK => ?_) AllReadyH.nil
                      (refine step_appC elmCN gS_one rfl (.tmp 71) (.tmp 73) rfl (.slice Aj L cj) ((th1 t).zip (ava2 t)) rfl (HR.out.row _ (bnew (bnil _) _).drew) [((⟨2, []⟩ : VCall), (⟨none, 0, 0⟩ : SV))] y HYE rfl (Sl.drew (Sl.fresh' _ #[_, _] 46 2 1 _ (by simp) rfl)) rfl (by rw [HYL.out]; simp only [maxLen]; omega) (by rw [HYL.out]; omega) (Nat.le_trans HR.out.size (bnew (bnil _) _).drew.size) ?_; intro E6 c6 w6 hc6 hc7 HN6 HG6 HO6; have HZ := HR.out.grow _ w6 (bnew (bnil _) _).drew HG6.out)
                      refine hK.out _ _ ?_ (fun hHeld => ?_)
                      · (try dsimp only); (first | assumption | exact ⟨c2, f3⟩ | exact HZ.1 | exact HZ.2.2 _ | (refine sees2f ?_ c2 c3 f3; (repeat (first | exact bnil _ | refine Below.drew ?_ | refine bnew ?_ _))))
                      clear hK K
                      try simp only [Act.put, List.setIfInBounds_toArray, List.set_cons_zero, List.set_cons_succ]
                      refine wpAnyH_take (i := 11) (oi := ⟨some 75, _, _, _, _, _⟩) (v := ?_) rfl (by kernel_rfl) (by kernel_rfl) (by kernel_rfl) (fun _ _ _ h => h) (Or.inl ⟨by rfl, ?_⟩) (by assumption) ?_
                      rotate_left
                      · intro w hSw; (try dsimp only at hSw); go_simp <;> with_reducible rfl
                      try simp only [Act.put, List.setIfInBounds_toArray, List.set_cons_zero, List.set_cons_succ]
                      refine wpAnyH_ready (rs := [12]) (by kernel_rfl) (by simp) ?_
                      refine AllReadyH.cons (o := ⟨none, _, _, _, _, _⟩) rfl (fun K hK => ?_) AllReadyH.nil
                      go_simp
                      refine hK.out _ _ ?_ (fun hHeld => ?_)
                      · (try dsimp only); (first | assumption | exact ⟨c2, f3⟩ | exact HZ.1 | exact HZ.2.2 _ | (refine sees2f ?_ c2 c3 f3; (repeat (first | exact bnil _ | refine Below.drew ?_ | refine bnew ?_ _))))
                      clear hK K
                      try dsimp only [Act.put]
                      refine wpAnyH_done (by kernel_rfl) ?_ _
                      rotate_left
                      refine AllReadyH.cons (o := ⟨some 73, _, _, _, _, _⟩) rfl (fun K hK => ?_) AllReadyH.nil
                      go_simp
                      refine hK.out _ _ ?_ (fun hHeld => ?_)
                      · (try dsimp only); (first | assumption | exact ⟨c2, f3⟩ | exact HZ.1 | exact HZ.2.2 _ | (refine sees2f ?_ c2 c3 f3; (repeat (first | exact bnil _ | refine Below.drew ?_ | refine bnew ?_ _))))
                      clear hK K
                      try simp only [Act.put, List.setIfInBounds_toArray, List.set_cons_zero, List.set_cons_succ]
                      refine wpAnyH_ready (rs := [7]) (by kernel_rfl) (by simp) ?_
                      refine AllReadyH.cons (o := ⟨some 71, _, _, _, _, _⟩) rfl (fun K hK => ?_) AllReadyH.nil
                      go_simp
                      refine hK.out _ _ ?_ (fun hHeld => ?_)
                      · (try dsimp only); (first | assumption | exact ⟨c2, f3⟩ | exact HZ.1 | exact HZ.2.2 _ | (refine sees2f ?_ c2 c3 f3; (repeat (first | exact bnil _ | refine Below.drew ?_ | refine bnew ?_ _))))
                      clear hK K
                      try simp only [Act.put, List.setIfInBounds_toArray, List.set_cons_zero, List.set_cons_succ]
                      refine wpAnyH_ready (rs := [10]) (by kernel_rfl) (by simp) ?_
                      refine AllReadyH.cons (o := ⟨some 74, _, _, _, _, _⟩) rfl (fun K hK => ?_) AllReadyH.nil
                      (refine step_appC elmCN gS_one rfl (.tmp 71) (.tmp 73) rfl (.slice Aj L cj) ((th1 t).zip (ava2 t)) rfl (HR.out.row _ (bnew (bnil _) _).drew) [((⟨2, []⟩ : VCall), (⟨none, 0, 0⟩ : SV))] y HYE rfl (Sl.drew (Sl.fresh' _ #[_, _] 46 2 1 _ (by simp) rfl)) rfl (by rw [HYL.out]; simp only [maxLen]; omega) (by rw [HYL.out]; omega) (Nat.le_trans HR.out.size (bnew (bnil _) _).drew.size) ?_; intro E6 c6 w6 hc6 hc7 HN6 HG6 HO6; have HZ := HR.out.grow _ w6 (bnew (bnil _) _).drew HG6.out)
                      refine hK.out _ _ ?_ (fun hHeld => ?_)
                      · (try dsimp only); (first | assumption | exact ⟨c2, f3⟩ | exact HZ.1 | exact HZ.2.2 _ | (refine sees2f ?_ c2 c3 f3; (repeat (first | exact bnil _ | refine Below.drew ?_ | refine bnew ?_ _))))
                      clear hK K
                      try simp only [Act.put, List.setIfInBounds_toArray, List.set_cons_zero, List.set_cons_succ]
                      refine wpAnyH_take (i := 11) (oi := ⟨some 75, _, _, _, _, _⟩) (v := ?_) rfl (by kernel_rfl) (by kernel_rfl) (by kernel_rfl) (fun _ _ _ h => h) (Or.inl ⟨by rfl, ?_⟩) (by assumption) ?_
                      rotate_left
                      · intro w hSw; (try dsimp only at hSw); go_simp <;> with_reducible rfl
                      try simp only [Act.put, List.setIfInBounds_toArray, List.set_cons_zero, List.set_cons_succ]
                      refine wpAnyH_ready (rs := [12]) (by kernel_rfl) (by simp) ?_
                      refine AllReadyH.cons (o := ⟨none, _, _, _, _, _⟩) rfl (fun K hK => ?_) AllReadyH.nil
                      go_simp
                      refine hK.out _ _ ?_ (fun hHeld => ?_)
                      · (try dsimp only); (first | assumption | exact ⟨c2, f3⟩ | exact HZ.1 | exact HZ.2.2 _ | (refine sees2f ?_ c2 c3 f3; (repeat (first | exact bnil _ | refine Below.drew ?_ | refine bnew ?_ _))))
                      clear hK K
                      try dsimp only [Act.put]
                      refine wpAnyH_done (by kernel_rfl) ?_ _
                      rotate_left
                      all_goals
                        have HF := hid (HXa2.out.app hk4 [⟨2, []⟩] [⟨none, 0, 0⟩] (bnew (bnil _) _).drew rfl (one_own2 2) HYE.out (by rw [HAJ.out]; exact HG6.out) (by rw [HAJ.out]; exact HO6.out) HN6.out)
                        clear HZ HG6 HO6 HN6
                        go_wp2
                        go_meet
                        exact ⟨_, _, HF⟩
                    case rest =>
                      obtain ⟨tvb2, avb2, HXb2⟩ := hcut
                      obtain ⟨wb2, hwb2⟩ : ∃ w2, w2 = wc := ⟨_, rfl⟩
                      subst hwb2
                      clear HR HAJ c2 c3 f3 hcj hcm ltT ltX HYE HYL y Aj cj hL18 L
                      obtain ⟨th2, hth2⟩ : ∃ th2, upd th1 t (th1 t ++ [⟨2, []⟩]) = th2 := ⟨_, rfl⟩
                      rw [hth2] at HXb2
                      have HLNc := hid (show (th2 t).length ≤ 18 by rw [← hth2, upd_same, ← HTH1.out, upd_same]; simp only [List.length_append, List.length_singleton]; have := HL15.out; omega)
                      have HTH2 := hid hth2
                      clear hth2
                      go_upto_region 15 with fail
                      obtain ⟨Aj, cj, hAj, HR0⟩ := HXb2.out.row hk4
                      obtain ⟨L, hL⟩ : ∃ L, (th2 t).length = L := ⟨_, rfl⟩
                      rw [hL] at hAj HR0
                      have hL18 : L ≤ 18 := by rw [← hL]; exact HLNc.out
                      obtain ⟨y, hy⟩ : ∃ y, (th2 t).zip (avb2 t) ++ [((⟨1, []⟩ : VCall), (⟨none, 0, 0⟩ : SV))] = y := ⟨_, rfl⟩
                      have HYE := hid hy
                      have HYL := hid (show y.length = L + 1 by rw [← hy, List.length_append, HR0.len]; rfl)
                      have HR := hid HR0
                      have HAJ := hid hAj
                      have c2 := HR.out.c2; have c3 := HR.out.c3; have f3 := HR.out.f3; have hcj := HR.out.hcj; have hcm := HR.out.hcm
                      unfold maxLen at hcm
                      clear hy HR0 hAj hL
                      have ltT := World.block_lt_of_cell? wb2 _ c3
                      have ltX := World.block_lt_of_cell? wb2 _ c2
                      refine wp_region_held_drew (S := (fun w' => w'.cell? ⟨X, 2, none⟩ = some (.slice (some ⟨T, 0, none⟩) 4 4) ∧ w'.frozen? ⟨T, t, none⟩ = false)) (by kernel_rfl) ?_ (fun hHeld => ?_)
                      · (try dsimp only); (first | assumption | exact ⟨c2, f3⟩ | exact HZ.1 | exact HZ.2.2 _ | (refine sees2f ?_ c2 c3 f3; (repeat (first | exact bnil _ | refine Below.drew ?_ | refine bnew ?_ _))))
                      refine wpAnyH_take (i := 0) (oi := ⟨some 76, _, _, _, _, _⟩) (v := ?_) rfl (by kernel_rfl) (by kernel_rfl) (by kernel_rfl) (fun _ _ _ h => h) (Or.inl ⟨by rfl, ?_⟩) (by assumption) ?_
                      rotate_left
                      · intro w hSw; (try dsimp only at hSw); go_simp <;> with_reducible rfl
                      try simp only [Act.put, List.setIfInBounds_toArray, List.set_cons_zero, List.set_cons_succ]
                      refine wpAnyH_take (i := 1) (oi := ⟨some 77, _, _, _, _, _⟩) (v := ?_) rfl (by kernel_rfl) (by kernel_rfl) (by kernel_rfl) (fun _ _ _ h => h) (Or.inl ⟨by rfl, ?_⟩) (by assumption) ?_
                      rotate_left
                      · intro w hSw; (try dsimp only at hSw); go_simp <;> with_reducible rfl
                      try simp only [Act.put, List.setIfInBounds_toArray, List.set_cons_zero, List.set_cons_succ]
                      refine wpAnyH_take (i := 2) (oi := ⟨some 78, _, _, _, _, _⟩) (v := ?_) rfl (by kernel_rfl) (by kernel_rfl) (by kernel_rfl) (fun _ _ _ h => h) (Or.inl ⟨by rfl, ?_⟩) (by assumption) ?_
                      rotate_left
                      · intro w hSw; (try dsimp only at hSw); go_simp <;> with_reducible rfl
                      try simp only [Act.put, List.setIfInBounds_toArray, List.set_cons_zero, List.set_cons_succ]
                      refine wpAnyH_take (i := 3) (oi := ⟨some 79, _, _, _, _, _⟩) (v := ?_) rfl (by kernel_rfl) (by kernel_rfl) (by kernel_rfl) (fun _ _ _ h => h) (Or.inl ⟨by rfl, ?_⟩) (by assumption) ?_
                      rotate_left
                      · intro w hSw; (try dsimp only at hSw); go_simp <;> with_reducible rfl
                      try simp only [Act.put, List.setIfInBounds_toArray, List.set_cons_zero, List.set_cons_succ]
                      refine wpAnyH_take (i := 4) (oi := ⟨some 80, _, _, _, _, _⟩) (v := ?_) rfl (by kernel_rfl) (by kernel_rfl) (by kernel_rfl) (fun _ _ _ h => h) (Or.inl ⟨by rfl, ?_⟩) (by assumption) ?_
                      rotate_left
                      · intro w hSw; (try dsimp only at hSw); go_simp <;> with_reducible rfl
                      try simp only [Act.put, List.setIfInBounds_toArray, List.set_cons_zero, List.set_cons_succ]
                      refine wpAnyH_take (i := 5) (oi := ⟨some 81, _, _, _, _, _⟩) (v := ?_) rfl (by kernel_rfl) (by kernel_rfl) (by kernel_rfl) (fun _ _ _ h => h) (Or.inl ⟨by rfl, ?_⟩) (by assumption) ?_
                      rotate_left
                      · intro w hSw; (try dsimp only at hSw); go_simp <;> with_reducible rfl
                      try simp only [Act.put, List.setIfInBounds_toArray, List.set_cons_zero, List.set_cons_succ]
                      refine wpAnyH_take (i := 6) (oi := ⟨some 82, _, _, _, _, _⟩) (v := ?_) rfl (by kernel_rfl) (by kernel_rfl) (by kernel_rfl) (fun _ _ _ h => h) (Or.inl ⟨by rfl, ?_⟩) (by assumption) ?_
                      rotate_left
                      · intro w hSw; (try dsimp only at hSw); go_simp <;> with_reducible rfl
                      try simp only [Act.put, List.setIfInBounds_toArray, List.set_cons_zero, List.set_cons_succ]
                      refine wpAnyH_take (i := 8) (oi := ⟨some 84, _, _, _, _, _⟩) (v := ?_) rfl (by kernel_rfl) (by kernel_rfl) (by kernel_rfl) (fun _ _ _ h => h) (Or.inl ⟨by rfl, ?_⟩) (by assumption) ?_
                      rotate_left
                      · intro w hSw; (try dsimp only at hSw); go_simp <;> with_reducible rfl
                      try simp only [Act.put, List.setIfInBounds_toArray, List.set_cons_zero, List.set_cons_succ]
                      refine wpAnyH_ready (rs := [7, 9]) (by kernel_rfl) (by simp) ?_
                      refine AllReadyH.cons (o := ⟨some 83, _, _, _, _, _⟩) rfl (fun K hK => ?_) ?_
                      go_simp
                      refine hK.out _ _ ?_ (fun hHeld => ?_)
                      · (try dsimp only); (first | assumption | exact ⟨c2, f3⟩ | exact HZ.1 | exact HZ.2.2 _ | (refine sees2f ?_ c2 c3 f3; (repeat (first | exact bnil _ | refine Below.drew ?_ | refine bnew ?_ _))))
                      clear hK K
                      try simp only [Act.put, List.setIfInBounds_toArray, List.set_cons_zero, List.set_cons_succ]
                      refine wpAnyH_ready (rs := [9]) (by kernel_rfl) (by simp) ?_
                      refine AllReadyH.cons (o := ⟨some 85, _, _, _, _, _⟩) rfl (fun K hK => ?_) AllReadyH.nil
                      go_simp
                      refine hK.out _ _ ?_ (fun hHeld => ?_)
                      · (try dsimp only); (first | assumption | exact ⟨c2, f3⟩ | exact HZ.1 | exact HZ.2.2 _ | (refine sees2f ?_ c2 c3 f3; (repeat (first | exact bnil _ | refine Below.drew ?_ | refine bnew ?_ _))))
                      clear hK K
                      try simp only [Act.put, List.setIfInBounds_toArray, List.set_cons_zero, List.set_cons_succ]
                      refine wpAnyH_ready (rs := [10]) (by kernel_rfl) (by simp) ?_
                      refine AllReadyH.cons (o := ⟨some 86, _, _, _, _, _⟩) rfl (fun K hK => ?_) AllReadyH.nil
                      (refine step_appC elmCN gS_one rfl (.tmp 83) (.tmp 85) rfl (.slice Aj L cj) ((th2 t).zip (avb2 t)) rfl (HR.out.row _ (bnew (bnil _) _).drew) [((⟨1, []⟩ : VCall), (⟨none, 0, 0⟩ : SV))] y HYE rfl (Sl.drew (Sl.fresh' _ #[_, _] 46 2 1 _ (by simp) rfl)) rfl (by rw [HYL.out]; simp only [maxLen]; omega) (by rw [HYL.out]; omega) (Nat.le_trans HR.out.size (bnew (bnil _) _).drew.size) ?_; intro E6 c6 w6 hc6 hc7 HN6 HG6 HO6; have HZ := HR.out.grow _ w6 (bnew (bnil _) _).drew HG6.out)
                      refine hK.out _ _ ?_ (fun hHeld => ?_)
                      · (try dsimp only); (first | assumption | exact ⟨c2, f3⟩ | exact HZ.1 | exact HZ.2.2 _ | (refine sees2f ?_ c2 c3 f3; (repeat (first | exact bnil _ | refine Below.drew ?_ | refine bnew ?_ _))))
                      clear hK K
                      try simp only [Act.put, List.setIfInBounds_toArray, List.set_cons_zero, List.set_cons_succ]
                      refine wpAnyH_take (i := 11) (oi := ⟨some 87, _, _, _, _, _⟩) (v := ?_) rfl (by kernel_rfl) (by kernel_rfl) (by kernel_rfl) (fun _ _ _ h => h) (Or.inl ⟨by rfl, ?_⟩) (by assumption) ?_
                      rotate_left
                      · intro w hSw; (try dsimp only at hSw); go_simp <;> with_reducible rfl
                      try simp only [Act.put, List.setIfInBounds_toArray, List.set_cons_zero, List.set_cons_succ]
                      refine wpAnyH_ready (rs := [12]) (by kernel_rfl) (by simp) ?_
                      refine AllReadyH.cons (o := ⟨none, _, _, _, _, _⟩) rfl (fun K hK => ?_) AllReadyH.nil
                      go_simp
                      refine hK.out _ _ ?_ (fun hHeld => ?_)
                      · (try dsimp only); (first | assumption | exact ⟨c2, f3⟩ | exact HZ.1 | exact HZ.2.2 _ | (refine sees2f ?_ c2 c3 f3; (repeat (first | exact bnil _ | refine Below.drew ?_ | refine bnew ?_ _))))
                      clear hK K
                      try dsimp only [Act.put]
                      refine wpAnyH_done (by kernel_rfl) ?_ _
                      rotate_left
                      refine AllReadyH.cons (o := ⟨some 85, _, _, _, _, _⟩) rfl (fun K hK => ?_) AllReadyH.nil
                      go_simp
                      refine hK.out _ _ ?_ (fun hHeld => ?_)
                      · (try dsimp only); (first | assumption | exact ⟨c2, f3⟩ | exact HZ.1 | exact HZ.2.2 _ | (refine sees2f ?_ c2 c3 f3; (repeat (first | exact bnil _ | refine Below.drew ?_ | refine bnew ?_ _))))
                      clear hK K
                      try simp only [Act.put, List.setIfInBounds_toArray, List.set_cons_zero, List.set_cons_succ]
                      refine wpAnyH_ready (rs := [7]) (by kernel_rfl) (by simp) ?_
                      refine AllReadyH.cons (o := ⟨some 83, _, _, _, _, _⟩) rfl (fun K hK => ?_) AllReadyH.nil
                      go_simp
                      refine hK.out _ _ ?_ (fun hHeld => ?_)
                      · (try dsimp only); (first | assumption | exact ⟨c2, f3⟩ | exact HZ.1 | exact HZ.2.2 _ | (refine sees2f ?_ c2 c3 f3; (repeat (first | exact bnil _ | refine Below.drew ?_ | refine bnew ?_ _))))
                      clear hK K
                      try simp only [Act.put, List.setIfInBounds_toArray, List.set_cons_zero, List.set_cons_succ]
                      refine wpAnyH_ready (rs := [10]) (by kernel_rfl) (by simp) ?_
                      refine AllReadyH.cons (o := ⟨some 86, _, _, _, _, _⟩) rfl (fun K hK => ?_) AllReadyH.nil
                      (refine step_appC elmCN gS_one rfl (.tmp 83) (.tmp 85) rfl (.slice Aj L cj) ((th2 t).zip (avb2 t)) rfl (HR.out.row _ (bnew (bnil _) _).drew) [((⟨1, []⟩ : VCall), (⟨none, 0, 0⟩ : SV))] y HYE rfl (Sl.drew (Sl.fresh' _ #[_, _] 46 2 1 _ (by simp) rfl)) rfl (by rw [HYL.out]; simp only [maxLen]; omega) (by rw [HYL.out]; omega) (Nat.le_trans HR.out.size (bnew (bnil _) _).drew.size) ?_; intro E6 c6 w6 hc6 hc7 HN6 HG6 HO6; have HZ := HR.out.grow _ w6 (bnew (bnil _) _).drew HG6.out)
                      refine hK.out _ _ ?_ (fun hHeld => ?_)
                      · (try dsimp only); (first | assumption | exact ⟨c2, f3⟩ | exact HZ.1 | exact HZ.2.2 _ | (refine sees2f ?_ c2 c3 f3; (repeat (first | exact bnil _ | refine Below.drew ?_ | refine bnew ?_ _))))
                      clear hK K
                      try simp only [Act.put, List.setIfInBounds_toArray, List.set_cons_zero, List.set_cons_succ]
                      refine wpAnyH_take (i := 11) (oi := ⟨some 87, _, _, _, _, _⟩) (v := ?_) rfl (by kernel_rfl) (by kernel_rfl) (by kernel_rfl) (fun _ _ _ h => h) (Or.inl ⟨by rfl, ?_⟩) (by assumption) ?_
                      rotate_left
                      · intro w hSw; (try dsimp only at hSw); go_simp <;> with_reducible rfl
                      try simp only [Act.put, List.setIfInBounds_toArray, List.set_cons_zero, List.set_cons_succ]
                      refine wpAnyH_ready (rs := [12]) (by kernel_rfl) (by simp) ?_
                      refine AllReadyH.cons (o := ⟨none, _, _, _, _, _⟩) rfl (fun K hK => ?_) AllReadyH.nil
                      go_simp
                      refine hK.out _ _ ?_ (fun hHeld => ?_)
                      · (try dsimp only); (first | assumption | exact ⟨c2, f3⟩ | exact HZ.1 | exact HZ.2.2 _ | (refine sees2f ?_ c2 c3 f3; (repeat (first | exact bnil _ | refine Below.drew ?_ | refine bnew ?_ _))))
                      clear hK K
                      try dsimp only [Act.put]
                      refine wpAnyH_done (by kernel_rfl) ?_ _
                      rotate_left
                      all_goals
                        have HXc2 := hid (HXb2.out.app hk4 [⟨1, []⟩] [⟨none, 0, 0⟩] (bnew (bnil _) _).drew rfl (one_own2 1) HYE.out (by rw [HAJ.out]; exact HG6.out) (by rw [HAJ.out]; exact HO6.out) HN6.out)
                        clear HZ HG6 HO6 HN6
                        have HXE := hid (show MBun W0 _ g0 cs0 w.heap.size X Cb T 3 4 (.slice AW nw cw) ws (fun i => [Value.slice A1 n1 m1, .slice A2 n2 m2, .slice (some ⟨bk, 0, none⟩) work work].getD i undef) (fun i => [k1, k2, lops work work].getD i []) _ (rths often work t (i + 1)) _ from by have h := HXc2.out; rw [← HTH2.out, upd_upd, upd_same, ← HTH1.out, upd_upd, upd_same, List.append_assoc, List.append_assoc] at h; rw [← rths_upd]; unfold rround; rw [if_pos hw0]; exact h)
                        clear HXc2
                        go_wp2
                        go_roundw
                        case rel => exact ⟨i + 1, _, _, hi, by go_num, HXE⟩
                        case measure => simp [intOf]; omega
                  · have iw0 : ¬ (0 : Int) < (work : Int) := by omega
                    have HLNc := HLNb
                    go_upto_region 15 with fail
                    obtain ⟨Aj, cj, hAj, HR0⟩ := HXa2.out.row hk4
                    obtain ⟨L, hL⟩ : ∃ L, (th1 t).length = L := ⟨_, rfl⟩
                    rw [hL] at hAj HR0
                    have hL18 : L ≤ 18 := by rw [← hL]; exact HLNc.out
                    obtain ⟨y, hy⟩ : ∃ y, (th1 t).zip (ava2 t) ++ [((⟨1, []⟩ : VCall), (⟨none, 0, 0⟩ : SV))] = y := ⟨_, rfl⟩
                    have HYE := hid hy
                    have HYL := hid (show y.length = L + 1 by rw [← hy, List.length_append, HR0.len]; rfl)
                    have HR := hid HR0
                    have HAJ := hid hAj
                    have c2 := HR.out.c2; have c3 := HR.out.c3; have f3 := HR.out.f3; have hcj := HR.out.hcj; have hcm := HR.out.hcm
                    unfold maxLen at hcm
                    clear hy HR0 hAj hL
                    have ltT := World.block_lt_of_cell? wa2 _ c3
                    have ltX := World.block_lt_of_cell? wa2 _ c2
                    refine wp_region_held_drew (S := (fun w' => w'.cell? ⟨X, 2, none⟩ = some (.slice (some ⟨T, 0, none⟩) 4 4) ∧ w'.frozen? ⟨T, t, none⟩ = false)) (by kernel_rfl) ?_ (fun hHeld => ?_)
                    · (try dsimp only); (first | assumption | exact ⟨c2, f3⟩ | exact HZ.1 | exact HZ.2.2 _ | (refine sees2f ?_ c2 c3 f3; (repeat (first | exact bnil _ | refine Below.drew ?_ | refine bnew ?_ _))))
                    refine wpAnyH_take (i := 0) (oi := ⟨some 76, _, _, _, _, _⟩) (v := ?_) rfl (by kernel_rfl) (by kernel_rfl) (by kernel_rfl) (fun _ _ _ h => h) (Or.inl ⟨by rfl, ?_⟩) (by assumption) ?_
                    rotate_left
                    · intro w hSw; (try dsimp only at hSw); go_simp <;> with_reducible rfl
                    try simp only [Act.put, List.setIfInBounds_toArray, List.set_cons_zero, List.set_cons_succ]
                    refine wpAnyH_take (i := 1) (oi := ⟨some 77, _, _, _, _, _⟩) (v := ?_) rfl (by kernel_rfl) (by kernel_rfl) (by kernel_rfl) (fun _ _ _ h => h) (Or.inl ⟨by rfl, ?_⟩) (by assumption) ?_
                    rotate_left
                    · intro w hSw; (try dsimp only at hSw); go_simp <;> with_reducible rfl
                    try simp only [Act.put, List.setIfInBounds_toArray, List.set_cons_zero, List.set_cons_succ]
                    refine wpAnyH_take (i := 2) (oi := ⟨some 78, _, _, _, _, _⟩) (v := ?_) rfl (by kernel_rfl) (by kernel_rfl) (by kernel_rfl) (fun _ _ _ h => h) (Or.inl ⟨by rfl, ?_⟩) (by assumption) ?_
                    rotate_left
                    · intro w hSw; (try dsimp only at hSw); go_simp <;> with_reducible rfl
                    try simp only [Act.put, List.setIfInBounds_toArray, List.set_cons_zero, List.set_cons_succ]
                    refine wpAnyH_take (i := 3) (oi := ⟨some 79, _, _, _, _, _⟩) (v := ?_) rfl (by kernel_rfl) (by kernel_rfl) (by kernel_rfl) (fun _ _ _ h => h) (Or.inl ⟨by rfl, ?_⟩) (by assumption) ?_
                    rotate_left
                    · intro w hSw; (try dsimp only at hSw); go_simp <;> with_reducible rfl
                    try simp only [Act.put, List.setIfInBounds_toArray, List.set_cons_zero, List.set_cons_succ]
                    refine wpAnyH_take (i := 4) (oi := ⟨some 80, _, _, _, _, _⟩) (v := ?_) rfl (by kernel_rfl) (by kernel_rfl) (by kernel_rfl) (fun _ _ _ h => h) (Or.inl ⟨by rfl, ?_⟩) (by assumption) ?_
                    rotate_left
                    · intro w hSw; (try dsimp only at hSw); go_simp <;> with_reducible rfl
                    try simp only [Act.put, List.setIfInBounds_toArray, List.set_cons_zero, List.set_cons_succ]
                    refine wpAnyH_take (i := 5) (oi := ⟨some 81, _, _, _, _, _⟩) (v := ?_) rfl (by kernel_rfl) (by kernel_rfl) (by kernel_rfl) (fun _ _ _ h => h) (Or.inl ⟨by rfl, ?_⟩) (by assumption) ?_
                    rotate_left
                    · intro w hSw; (try dsimp only at hSw); go_simp <;> with_reducible rfl
                    try simp only [Act.put, List.setIfInBounds_toArray, List.set_cons_zero, List.set_cons_succ]
                    refine wpAnyH_take (i := 6) (oi := ⟨some 82, _, _, _, _, _⟩) (v := ?_) rfl (by kernel_rfl) (by kernel_rfl) (by kernel_rfl) (fun _ _ _ h => h) (Or.inl ⟨by rfl, ?_⟩) (by assumption) ?_
                    rotate_left
                    · intro w hSw; (try dsimp only at hSw); go_simp <;> with_reducible rfl
                    try simp only [Act.put, List.setIfInBounds_toArray, List.set_cons_zero, List.set_cons_succ]
                    refine wpAnyH_take (i := 8) (oi := ⟨some 84, _, _, _, _, _⟩) (v := ?_) rfl (by kernel_rfl) (by kernel_rfl) (by kernel_rfl) (fun _ _ _ h => h) (Or.inl ⟨by rfl, ?_⟩) (by assumption) ?_
                    rotate_left
                    · intro w hSw; (try dsimp only at hSw); go_simp <;> with_reducible rfl
                    try simp only [Act.put, List.setIfInBounds_toArray, List.set_cons_zero, List.set_cons_succ]
                    refine wpAnyH_ready (rs := [7, 9]) (by kernel_rfl) (by simp) ?_
                    refine AllReadyH.cons (o := ⟨some 83, _, _, _, _, _⟩) rfl (fun K hK => ?_) ?_
                    go_simp
                    refine hK.out _ _ ?_ (fun hHeld => ?_)
                    · (try dsimp only); (first | assumption | exact ⟨c2, f3⟩ | exact HZ.1 | exact HZ.2.2 _ | (refine sees2f ?_ c2 c3 f3; (repeat (first | exact bnil _ | refine Below.drew ?_ | refine bnew ?_ _))))
                    clear hK K
                    try simp only [Act.put, List.setIfInBounds_toArray, List.set_cons_zero, List.set_cons_succ]
                    refine wpAnyH_ready (rs := [9]) (by kernel_rfl) (by simp) ?_
                    refine AllReadyH.cons (o := ⟨some 85, _, _, _, _, _⟩) rfl (fun K hK => ?_) AllReadyH.nil
                    go_simp
                    refine hK.out _ _ ?_ (fun hHeld => ?_)
                    · (try dsimp only); (first | assumption | exact ⟨c2, f3⟩ | exact HZ.1 | exact HZ.2.2 _ | (refine sees2f ?_ c2 c3 f3; (repeat (first | exact bnil _ | refine Below.drew ?_ | refine bnew ?_ _))))
                    clear hK K
                    try simp only [Act.put, List.setIfInBounds_toArray, List.set_cons_zero, List.set_cons_succ]
                    refine wpAnyH_ready (rs := [10]) (by kernel_rfl) (by simp) ?_
                    refine AllReadyH.cons (o := ⟨some 86, _, _, _, _, _⟩) rfl (fun K hK => ?_) AllReadyH.nil
                    (refine step_appC elmCN gS_one rfl (.tmp 83) (.tmp 85) rfl (.slice Aj L cj) ((th1 t).zip (ava2 t)) rfl (HR.out.row _ (bnew (bnil _) _).drew) [((⟨1, []⟩ : VCall), (⟨none, 0, 0⟩ : SV))] y HYE rfl (Sl.drew (Sl.fresh' _ #[_, _] 46 2 1 _ (by simp) rfl)) rfl (by rw [HYL.out]; simp only [maxLen]; omega) (by rw [HYL.out]; omega) (Nat.le_trans HR.out.size (bnew (bnil _) _).drew.size) ?_; intro E6 c6 w6 hc6 hc7 HN6 HG6 HO6; have HZ := HR.out.grow _ w6 (bnew (bnil _) _).drew HG6.out)
                    refine hK.out _ _ ?_ (fun hHeld => ?_)
                    · (try dsimp only); (first | assumption | exact ⟨c2, f3⟩ | exact HZ.1 | exact HZ.2.2 _ | (refine sees2f ?_ c2 c3 f3; (repeat (first | exact bnil _ | refine Below.drew ?_ | refine bnew ?_ _))))
                    clear hK K
                    try simp only [Act.put, List.setIfInBounds_toArray, List.set_cons_zero, List.set_cons_succ]
                    refine wpAnyH_take (i := 11) (oi := ⟨some 87, _, _, _, _, _⟩) (v := ?_) rfl (by kernel_rfl) (by kernel_rfl) (by kernel_rfl) (fun _ _ _ h => h) (Or.inl ⟨by rfl, ?_⟩) (by assumption) ?_
                    rotate_left
                    · intro w hSw; (try dsimp only at hSw); go_simp <;> with_reducible rfl
                    try simp only [Act.put, List.setIfInBounds_toArray, List.set_cons_zero, List.set_cons_succ]
                    refine wpAnyH_ready (rs := [12]) (by kernel_rfl) (by simp) ?_
                    refine AllReadyH.cons (o := ⟨none, _, _, _, _, _⟩) rfl (fun K hK => ?_) AllReadyH.nil
                    go_simp
                    refine hK.out _ _ ?_ (fun hHeld => ?_)
                    · (try dsimp only); (first | assumption | exact ⟨c2, f3⟩ | exact HZ.1 | exact HZ.2.2 _ | (refine sees2f ?_ c2 c3 f3; (repeat (first | exact bnil _ | refine Below.drew ?_ | refine bnew ?_ _))))
                    clear hK K
                    try dsimp only [Act.put]
                    refine wpAnyH_done (by kernel_rfl) ?_ _
                    rotate_left
                    refine AllReadyH.cons (o := ⟨some 85, _, _, _, _, _⟩) rfl (fun K hK => ?_) AllReadyH.nil
                    go_simp
                    refine hK.out _ _ ?_ (fun hHeld => ?_)
                    · (try dsimp only); (first | assumption | exact ⟨c2, f3⟩ | exact HZ.1 | exact HZ.2.2 _ | (refine sees2f ?_ c2 c3 f3; (repeat (first | exact bnil _ | refine Below.drew ?_ | refine bnew ?_ _))))
                    clear hK K
                    try simp only [Act.put, List.setIfInBounds_toArray, List.set_cons_zero, List.set_cons_succ]
                    refine wpAnyH_ready (rs := [7]) (by kernel_rfl) (by simp) ?_
                    refine AllReadyH.cons (o := ⟨some 83, _, _, _, _, _⟩) rfl (fun K hK => ?_) AllReadyH.nil
                    go_simp
                    refine hK.out _ _ ?_ (fun hHeld => ?_)
                    · (try dsimp only); (first | assumption | exact ⟨c2, f3⟩ | exact HZ.1 | exact HZ.2.2 _ | (refine sees2f ?_ c2 c3 f3; (repeat (first | exact bnil _ | refine Below.drew ?_ | refine bnew ?_ _))))
                    clear hK K
                    try simp only [Act.put, List.setIfInBounds_toArray, List.set_cons_zero, List.set_cons_succ]
                    refine wpAnyH_ready (rs := [10]) (by kernel_rfl) (by simp) ?_
                    refine AllReadyH.cons (o := ⟨some 86, _, _, _, _, _⟩) rfl (fun K hK => ?_) AllReadyH.nil
                    (refine step_appC elmCN gS_one rfl (.tmp 83) (.tmp 85) rfl (.slice Aj L cj) ((th1 t).zip (ava2 t)) rfl (HR.out.row _ (bnew (bnil _) _).drew) [((⟨1, []⟩ : VCall), (⟨none, 0, 0⟩ : SV))] y HYE rfl (Sl.drew (Sl.fresh' _ #[_, _] 46 2 1 _ (by simp) rfl)) rfl (by rw [HYL.out]; simp only [maxLen]; omega) (by rw [HYL.out]; omega) (Nat.le_trans HR.out.size (bnew (bnil _) _).drew.size) ?_; intro E6 c6 w6 hc6 hc7 HN6 HG6 HO6; have HZ := HR.out.grow _ w6 (bnew (bnil _) _).drew HG6.out)
                    refine hK.out _ _ ?_ (fun hHeld => ?_)
                    · (try dsimp only); (first | assumption | exact ⟨c2, f3⟩ | exact HZ.1 | exact HZ.2.2 _ | (refine sees2f ?_ c2 c3 f3; (repeat (first | exact bnil _ | refine Below.drew ?_ | refine bnew ?_ _))))
                    clear hK K
                    try simp only [Act.put, List.setIfInBounds_toArray, List.set_cons_zero, List.set_cons_succ]
                    refine wpAnyH_take (i := 11) (oi := ⟨some 87, _, _, _, _, _⟩) (v := ?_) rfl (by kernel_rfl) (by kernel_rfl) (by kernel_rfl) (fun _ _ _ h => h) (Or.inl ⟨by rfl, ?_⟩) (by assumption) ?_
                    rotate_left
                    · intro w hSw; (try dsimp only at hSw); go_simp <;> with_reducible rfl
                    try simp only [Act.put, List.setIfInBounds_toArray, List.set_cons_zero, List.set_cons_succ]
                    refine wpAnyH_ready (rs := [12]) (by kernel_rfl) (by simp) ?_
                    refine AllReadyH.cons (o := ⟨none, _, _, _, _, _⟩) rfl (fun K hK => ?_) AllReadyH.nil
                    go_simp
                    refine hK.out _ _ ?_ (fun hHeld => ?_)
                    · (try dsimp only); (first | assumption | exact ⟨c2, f3⟩ | exact HZ.1 | exact HZ.2.2 _ | (refine sees2f ?_ c2 c3 f3; (repeat (first | exact bnil _ | refine Below.drew ?_ | refine bnew ?_ _))))
                    clear hK K
                    try dsimp only [Act.put]
                    refine wpAnyH_done (by kernel_rfl) ?_ _
                    rotate_left
                    all_goals
                      have HXc2 := hid (HXa2.out.app hk4 [⟨1, []⟩] [⟨none, 0, 0⟩] (bnew (bnil _) _).drew rfl (one_own2 1) HYE.out (by rw [HAJ.out]; exact HG6.out) (by rw [HAJ.out]; exact HO6.out) HN6.out)
                      clear HZ HG6 HO6 HN6
                      have HXE := hid (show MBun W0 _ g0 cs0 w.heap.size X Cb T 3 4 (.slice AW nw cw) ws (fun i => [Value.slice A1 n1 m1, .slice A2 n2 m2, .slice (some ⟨bk, 0, none⟩) work work].getD i undef) (fun i => [k1, k2, lops work work].getD i []) _ (rths often work t (i + 1)) _ from by have h := HXc2.out; rw [← HTH1.out, upd_upd, upd_same, List.append_assoc] at h; rw [← rths_upd]; unfold rround; rw [if_neg hw0]; exact h)
                      clear HXc2
                      go_wp2
                      go_roundw
                      case rel => exact ⟨i + 1, _, _, hi, by go_num, HXE⟩
                      case measure => simp [intOf]; omega
              · obtain rfl : i = often := by omega
                have i5 : ¬ (i : Int) < (i : Int) := by omega
                go_wp2
                go_roundw
                case rel => exact ⟨t + 1, _, _, by omega, by go_num, (by rw [← rths_next]; exact HX)⟩
                case measure => simp [intOf]; omega
          · obtain rfl : t = 4 := by omega
            have i4 : ¬ (((4 : Nat) : Int)) < 4 := by omega
            have HMA := hid (rmach_at (ws := ws) HX.out.mn (by omega) hoften q1 q2 HN1.out HN2.out HS1.out HS2.out)
            have y0 : wr.cell? ⟨X, 0, none⟩ = some (.slice AW nw cw) := HX.out.hx.cell 0
            have y1 : wr.cell? ⟨X, 1, none⟩ = some (.slice (some ⟨Cb, 0, none⟩) 3 3) := HX.out.hx.cell 1
            have y2 : wr.cell? ⟨X, 2, none⟩ = some (.slice (some ⟨T, 0, none⟩) 4 4) := HX.out.hx.cell 2
            have z0 := HX.out.hr.frozen 0
            have z1 := HX.out.hr.frozen 1
            have z2 := HX.out.hr.frozen 2
            have z3 : wr.cell? ⟨w.heap.size, 0, none⟩ = some (.slice none 0 0) := HX.out.hr.cell 0
            have z4 : wr.cell? ⟨w.heap.size, 1, none⟩ = some (.slice none 0 0) := HX.out.hr.cell 1
            have z5 : wr.cell? ⟨w.heap.size, 2, none⟩ = some (.slice none 0 0) := HX.out.hr.cell 2
            have HTR := hid (HT.out.below HX.out.below)
            have hXR : X ≠ w.heap.size := fun e => by
              rw [e] at y1
              rw [z4] at y1
              injection y1 with y1; injection y1 with y1; cases y1
            go_upto_region 16 with fail
            refine wp_region_held_drew (S := (fun w' => w'.cell? ⟨X, 0, none⟩ = some (.slice AW nw cw) ∧ w'.cell? ⟨X, 1, none⟩ = some (.slice (some ⟨Cb, 0, none⟩) 3 3) ∧ w'.cell? ⟨X, 2, none⟩ = some (.slice (some ⟨T, 0, none⟩) 4 4) ∧ w'.frozen? ⟨w.heap.size, 0, none⟩ = false ∧ w'.frozen? ⟨w.heap.size, 1, none⟩ = false ∧ w'.frozen? ⟨w.heap.size, 2, none⟩ = false)) (by kernel_rfl) ?_ (fun hHeld => ?_)
            · (try dsimp only); (first | assumption | exact ⟨y0, y1, y2, z0, z1, z2⟩ | exact ⟨y0', y1', y2', z0', z1', z2'⟩ | exact keep16s hXR y0' y1' y2' z0' z1' z2' _ _ _)
            refine wpAnyH_take (i := 0) (oi := ⟨some 88, _, _, _, _, _⟩) (v := ?_) rfl (by kernel_rfl) (by kernel_rfl) (by kernel_rfl) (fun _ _ _ h => h) (Or.inl ⟨by rfl, ?_⟩) (by assumption) ?_
            rotate_left
            · intro w hSw; (try dsimp only at hSw); go_simp <;> with_reducible rfl
            try simp only [Act.put, List.setIfInBounds_toArray, List.set_cons_zero, List.set_cons_succ]
            refine wpAnyH_take (i := 1) (oi := ⟨some 89, _, _, _, _, _⟩) (v := ?_) rfl (by kernel_rfl) (by kernel_rfl) (by kernel_rfl) (fun _ _ _ h => h) (Or.inl ⟨by rfl, ?_⟩) (by assumption) ?_
            rotate_left
            · intro w hSw; (try dsimp only at hSw); go_simp <;> with_reducible rfl
            try simp only [Act.put, List.setIfInBounds_toArray, List.set_cons_zero, List.set_cons_succ]
            refine wpAnyH_take (i := 2) (oi := ⟨some 90, _, _, _, _, _⟩) (v := ?_) rfl (by kernel_rfl) (by kernel_rfl) (by kernel_rfl) (fun _ _ _ h => h) (Or.inl ⟨by rfl, ?_⟩) (by assumption) ?_
            rotate_left
            · intro w hSw; (try dsimp only at hSw); go_simp <;> with_reducible rfl
            try simp only [Act.put, List.setIfInBounds_toArray, List.set_cons_zero, List.set_cons_succ]
            refine wpAnyH_take (i := 3) (oi := ⟨some 91, _, _, _, _, _⟩) (v := ?_) rfl (by kernel_rfl) (by kernel_rfl) (by kernel_rfl) (fun _ _ _ h => h) (Or.inl ⟨by rfl, ?_⟩) (by assumption) ?_
            rotate_left
            · intro w hSw; (try dsimp only at hSw); go_simp <;> with_reducible rfl
            try simp only [Act.put, List.setIfInBounds_toArray, List.set_cons_zero, List.set_cons_succ]
            refine wpAnyH_take (i := 4) (oi := ⟨some 92, _, _, _, _, _⟩) (v := ?_) rfl (by kernel_rfl) (by kernel_rfl) (by kernel_rfl) (fun _ _ _ h => h) (Or.inl ⟨by rfl, ?_⟩) (by assumption) ?_
            rotate_left
            · intro w hSw; (try dsimp only at hSw); go_simp <;> with_reducible rfl
            try simp only [Act.put, List.setIfInBounds_toArray, List.set_cons_zero, List.set_cons_succ]
            refine wpAnyH_take (i := 5) (oi := ⟨some 93, _, _, _, _, _⟩) (v := ?_) rfl (by kernel_rfl) (by kernel_rfl) (by kernel_rfl) (fun _ _ _ h => h) (Or.inl ⟨by rfl, ?_⟩) (by assumption) ?_
            rotate_left
            · intro w hSw; (try dsimp only at hSw); go_simp <;> with_reducible rfl
            try simp only [Act.put, List.setIfInBounds_toArray, List.set_cons_zero, List.set_cons_succ]
            refine wpAnyH_take (i := 6) (oi := ⟨some 94, _, _, _, _, _⟩) (v := ?_) rfl (by kernel_rfl) (by kernel_rfl) (by kernel_rfl) (fun _ _ _ h => h) (Or.inl ⟨by rfl, ?_⟩) (by assumption) ?_
            rotate_left
            · intro w hSw; (try dsimp only at hSw); go_simp <;> with_reducible rfl
            try simp only [Act.put, List.setIfInBounds_toArray, List.set_cons_zero, List.set_cons_succ]
            refine wpAnyH_take (i := 7) (oi := ⟨some 95, _, _, _, _, _⟩) (v := ?_) rfl (by kernel_rfl) (by kernel_rfl) (by kernel_rfl) (fun _ _ _ h => h) (Or.inl ⟨by rfl, ?_⟩) (by assumption) ?_
            rotate_left
            · intro w hSw; (try dsimp only at hSw); go_simp <;> with_reducible rfl
            try simp only [Act.put, List.setIfInBounds_toArray, List.set_cons_zero, List.set_cons_succ]
            refine wpAnyH_take (i := 8) (oi := ⟨some 96, _, _, _, _, _⟩) (v := ?_) rfl (by kernel_rfl) (by kernel_rfl) (by kernel_rfl) (fun _ _ _ h => h) (Or.inl ⟨by rfl, ?_⟩) (by assumption) ?_
            rotate_left
            · intro w hSw; (try dsimp only at hSw); go_simp <;> with_reducible rfl
            try simp only [Act.put, List.setIfInBounds_toArray, List.set_cons_zero, List.set_cons_succ]
            refine wpAnyH_take (i := 9) (oi := ⟨some 97, _, _, _, _, _⟩) (v := ?_) rfl (by kernel_rfl) (by kernel_rfl) (by kernel_rfl) (fun _ _ _ h => h) (Or.inl ⟨by rfl, ?_⟩) (by assumption) ?_
            rotate_left
            · intro w hSw; (try dsimp only at hSw); go_simp <;> with_reducible rfl
            try simp only [Act.put, List.setIfInBounds_toArray, List.set_cons_zero, List.set_cons_succ]
            refine wpAnyH_take (i := 10) (oi := ⟨some 98, _, _, _, _, _⟩) (v := ?_) rfl (by kernel_rfl) (by kernel_rfl) (by kernel_rfl) (fun _ _ _ h => h) (Or.inl ⟨by rfl, ?_⟩) (by assumption) ?_
            rotate_left
            · intro w hSw; (try dsimp only at hSw); go_simp <;> with_reducible rfl
            try simp only [Act.put, List.setIfInBounds_toArray, List.set_cons_zero, List.set_cons_succ]
            refine wpAnyH_ready (rs := [11]) (by kernel_rfl) (by simp) ?_
            refine AllReadyH.cons (o := ⟨some 99, _, _, _, _, _⟩) rfl (fun K hK => ?_) AllReadyH.nil
            go_simp
            refine (run_may AW (some ⟨Cb, 0, none⟩) (some ⟨T, 0, none⟩) nw cw 3 3 4 4 _ _ (by omega) (by decide) (by decide) (HTR.out.below (bnil _).drew) (HMA.out.below (bnil _).drew)).mono ?_; rintro e w4 ⟨rfl, b4⟩; have b4 := bgo (bnil wr).drew b4; obtain ⟨y0', y1', y2', z0', z1', z2', z3', z4', z5'⟩ := keep16 b4 y0 y1 y2 z0 z1 z2 z3 z4 z5; clear y0 y1 y2 z0 z1 z2 z3 z4 z5
            go_wp2_with fail
            refine hK.out _ _ ?_ (fun hHeld => ?_)
            · (try dsimp only); (first | assumption | exact ⟨y0, y1, y2, z0, z1, z2⟩ | exact ⟨y0', y1', y2', z0', z1', z2'⟩ | exact keep16s hXR y0' y1' y2' z0' z1' z2' _ _ _)
            clear hK K
            try simp only [Act.put, List.setIfInBounds_toArray, List.set_cons_zero, List.set_cons_succ]
            refine wpAnyH_take (i := 12) (oi := ⟨some 100, _, _, _, _, _⟩) (v := ?_) rfl (by kernel_rfl) (by kernel_rfl) (by kernel_rfl) (fun _ _ _ h => h) (Or.inl ⟨by rfl, ?_⟩) (by assumption) ?_
            rotate_left
            · intro w hSw; (try dsimp only at hSw); go_simp <;> with_reducible rfl
            try simp only [Act.put, List.setIfInBounds_toArray, List.set_cons_zero, List.set_cons_succ]
            refine wpAnyH_ready (rs := [13]) (by kernel_rfl) (by simp) ?_
            refine AllReadyH.cons (o := ⟨none, _, _, _, _, _⟩) rfl (fun K hK => ?_) AllReadyH.nil
            go_simp
            refine hK.out _ _ ?_ (fun hHeld => ?_)
            · (try dsimp only); (first | assumption | exact ⟨y0, y1, y2, z0, z1, z2⟩ | exact ⟨y0', y1', y2', z0', z1', z2'⟩ | exact keep16s hXR y0' y1' y2' z0' z1' z2' _ _ _)
            clear hK K
            try dsimp only [Act.put]
            refine wpAnyH_take (i := 14) (oi := ⟨some 13, _, _, _, _, _⟩) (v := ?_) rfl (by kernel_rfl) (by kernel_rfl) (by kernel_rfl) (fun _ _ _ h => h) (Or.inl ⟨by rfl, ?_⟩) (by assumption) ?_
            rotate_left
            · intro w hSw; (try dsimp only at hSw); go_simp <;> with_reducible rfl
            try simp only [Act.put, List.setIfInBounds_toArray, List.set_cons_zero, List.set_cons_succ]
            refine wpAnyH_done (by kernel_rfl) ?_ _
            rotate_left
            go_wp2
            obtain ⟨q0, q1, q2⟩ := set3N ((HX.out.step b4).hr) (.slice AW nw cw) (.slice (some ⟨Cb, 0, none⟩) 3 3) (.slice (some ⟨T, 0, none⟩) 4 4)
            refine bodyPost_ret (v := .tuple #[.agg #[.slice AW nw cw, .slice (some ⟨Cb, 0, none⟩) 3 3, .slice (some ⟨T, 0, none⟩) 4 4], .bool true]) (by simp [results, Tryd.results59, go_sem, q0, q1, q2]) rfl ?_
            exact ⟨Cb, T, _, tv, av, rfl, (HX.out.step b4).fin (Nat.ne_of_lt HG.out.lt) hB0.out.size _ _ _⟩
end Go.Proofs.YtnoinojhocicjaaDoor
