/-
  barographkeep.onceMachine: what it builds. Written by gen_once.py.
-/
import Derived.Test.YtnoinojhocicjaaDoorInv
import Derived.Test.YtnoinojhocicjaaDoorMachN
import Derived.Test.YtnoinojhocicjaaDoorCodes1
namespace Go.Proofs.YtnoinojhocicjaaDoor
open Go.RowKit
set_option linter.unusedVariables false

/-- the first region of once's machine -/
structure onceR (w0 : World)  (L : Nat → Bool) (x4 x5 x6 x7 x8 x1 : Value) (w : World) : Prop where
  b : Below w0.heap.size w0 w
  f0 : L 0 = true → w.ownsRow w0.heap.size 3 1 x4 1 (([0]).flatMap gI)
  f1 : L 1 = true → w.ownsRow w0.heap.size 81 5 x5 (onceCode).length ((onceCode).flatMap gO)
  f2 : L 2 = true → ∃ b, x6 = .slice (some ⟨b, 0, none⟩) 1 1 ∧ w0.heap.size ≤ b ∧ Blk w b 33 #[x5]
  f3 : L 3 = true → ∃ b, x7 = .slice (some ⟨b, 0, none⟩) 4 4 ∧ w0.heap.size ≤ b ∧ Blk w b 44 #[.slice none 0 0, .slice none 0 0, .slice none 0 0, .slice none 0 0]
  f4 : L 4 = true → x8 = .agg #[x4, x6, x7]
  f5 : L 5 = true → L 6 = false → ∃ b, x1 = .pointer (some ⟨b, 0, none⟩) ∧ w0.heap.size ≤ b ∧ Blk w b 27 #[.slice none 0 0, .slice none 0 0, .slice none 0 0]
  f6 : L 6 = true → ∃ b, x1 = .pointer (some ⟨b, 0, none⟩) ∧ w0.heap.size ≤ b ∧ Blk w b 27 #[x4, x6, x7]
section
variable {w0 : World}  {L : Nat → Bool} {x4 x5 x6 x7 x8 x1 : Value} {w w' : World}
theorem onceR.below (h : onceR w0 L x4 x5 x6 x7 x8 x1 w) (hb : Below w.heap.size w w') : onceR w0 L x4 x5 x6 x7 x8 x1 w' where
  b := bgo h.b hb
  f0 := fun e => own_below (h.f0 e) hb
  f1 := fun e => own_below (h.f1 e) hb
  f2 := fun e => by obtain ⟨b, h1, h2, h3⟩ := h.f2 e; exact ⟨b, h1, h2, h3.below' hb⟩
  f3 := fun e => by obtain ⟨b, h1, h2, h3⟩ := h.f3 e; exact ⟨b, h1, h2, h3.below' hb⟩
  f4 := h.f4
  f5 := fun e e' => by obtain ⟨b, h1, h2, h3⟩ := h.f5 e e'; exact ⟨b, h1, h2, h3.below' hb⟩
  f6 := fun e => by obtain ⟨b, h1, h2, h3⟩ := h.f6 e; exact ⟨b, h1, h2, h3.below' hb⟩
theorem onceR.store {X : Nat} {L' : Nat → Bool} (h : onceR w0 L x4 x5 x6 x7 x8 (.pointer (some ⟨X, 0, none⟩)) w) (hX : w0.heap.size ≤ X)
    (hb : Blk w X 27 #[.slice none 0 0, .slice none 0 0, .slice none 0 0]) (hL : ∀ i, i ≠ 6 → L' i = L i) (h9 : L' 6 = true) :
    onceR w0 L' x4 x5 x6 x7 x8 (.pointer (some ⟨X, 0, none⟩)) (((w.setCell ⟨X, 0, none⟩ x4).setCell ⟨X, 1, none⟩ x6).setCell ⟨X, 2, none⟩ x7) := by
  have hC : Chg (fun k => k = X) w (((w.setCell ⟨X, 0, none⟩ x4).setCell ⟨X, 1, none⟩ x6).setCell ⟨X, 2, none⟩ x7) :=
    (((Chg.refl (fun k => k = X) w).setCell (p := ⟨X, 0, none⟩) (fun _ => rfl) _).setCell (p := ⟨X, 1, none⟩) (fun _ => rfl) _).setCell (p := ⟨X, 2, none⟩) (fun _ => rfl) _
  have bk : ∀ {g t : Nat} {cs : Array Value}, t ≠ 27 → Blk w g t cs → Blk (((w.setCell ⟨X, 0, none⟩ x4).setCell ⟨X, 1, none⟩ x6).setCell ⟨X, 2, none⟩ x7) g t cs := fun h1 h2 => hC.blk h2 fun e => by subst e; exact h1 (blk_ty h2 hb)
  have ok : ∀ {B e sz : Nat} {v' : Value} {n : Nat} {xs : List Value}, e ≠ 27 → w.ownsRow B e sz v' n xs → (((w.setCell ⟨X, 0, none⟩ x4).setCell ⟨X, 1, none⟩ x6).setCell ⟨X, 2, none⟩ x7).ownsRow B e sz v' n xs := fun h1 h2 => own_chg h2 hC fun k hk e => own_ne_blk h2 hb h1 (by rw [hk, e])
  have e0 := hL 0 (by decide)
  have e1 := hL 1 (by decide)
  have e2 := hL 2 (by decide)
  have e3 := hL 3 (by decide)
  have e4 := hL 4 (by decide)
  refine ⟨((h.b.setCell (p := ⟨X, 0, none⟩) hX _).setCell (p := ⟨X, 1, none⟩) hX _).setCell (p := ⟨X, 2, none⟩) hX _, ?_, ?_, ?_, ?_, ?_, ?_, ?_⟩
  · rw [e0]; intro e; exact ok (by decide) (h.f0 e)
  · rw [e1]; intro e; exact ok (by decide) (h.f1 e)
  · rw [e2]; intro e; obtain ⟨b, h1, h2, h3⟩ := h.f2 e; exact ⟨b, h1, h2, bk (by decide) h3⟩
  · rw [e3]; intro e; obtain ⟨b, h1, h2, h3⟩ := h.f3 e; exact ⟨b, h1, h2, bk (by decide) h3⟩
  · rw [e4]; exact h.f4
  · intro _ e; rw [h9] at e; cases e
  · intro _; exact ⟨X, rfl, hX, ((hb.set_ 0 _).set_ 1 _).set_ 2 _⟩
end
theorem once_words (w : World) : Calls Tryd.prog 32 #[] w fun e w' => ∃ v, e = .returned v ∧ Ow w w' 3 1 gI v [0] := by
  go_enter Tryd.func32, Tryd.ntmps32
  go_wp2
  go_ret
  exact ⟨_, rfl, ⟨own_fresh w _ 3 1 1 _ _ rfl (Nat.le_refl _) rfl (by simp [maxLen]), bnew (bnil w) _⟩⟩
/-- how many calls thread j has when t threads are full and the next one has i -/
def onceN (t i j : Nat) : Nat := if j < t then 4 else if j = t then i else 0
def onceThs (t i : Nat) (j : Nat) : List VCall := List.replicate (onceN t i j) ⟨0, []⟩
theorem onceThs_upd (t i : Nat) : upd (onceThs t i) t (onceThs t i t ++ [⟨0, []⟩]) = onceThs t (i + 1) := by
  funext j
  unfold upd onceThs onceN
  by_cases h : j = t
  · subst h; simp [List.replicate_succ']
  · simp [h]
theorem onceThs_next (t : Nat) : onceThs t 4 = onceThs (t + 1) 0 := by
  funext j
  unfold onceThs onceN
  by_cases h : j < t
  · simp [h, Nat.lt_succ_of_lt h]
  · by_cases h2 : j = t
    · subst h2; simp
    · simp [h, h2, show ¬ j < t + 1 by omega]
theorem onceThs_zero : onceThs 0 0 = fun _ => [] := by funext j; simp [onceThs, onceN]
set_option maxHeartbeats 2000000 in
set_option maxRecDepth 100000 in
theorem once_machine (w : World) : Calls Tryd.prog 17 #[] w fun e w' => MachPostN w [0] 1 4 (fun i => [onceCode].getD i []) (onceThs 4 0) e w' := by
  go_enter Tryd.func17, Tryd.ntmps17
  go_upto_region 1 with fail
  obtain ⟨w0, hw0⟩ : ∃ w0, w.alloc (.cells #[.slice none 0 0, .slice none 0 0, .slice none 0 0] 27) = w0 := ⟨_, rfl⟩
  rw [hw0]
  have B0 := hid (show Below w.heap.size w w0 by rw [← hw0]; exact bnew (bnil w) _)
  have RB := hid (show Blk w0 w.heap.size 27 #[.slice none 0 0, .slice none 0 0, .slice none 0 0] by rw [← hw0]; exact Blk.new w _ _)
  clear hw0
  have B00 := B0.out.size
  refine wp_region_inv (by kernel_rfl) (fun a0 L a wr => ∃ x4 x5 x6 x7 x8 x1, a = ((((((a0.put (some 4) x4).put (some 5) x5).put (some 6) x6).put (some 7) x7).put (some 8) x8).put (some 1) x1) ∧ onceR w0 L x4 x5 x6 x7 x8 x1 wr) (by kernel_rfl) ?_ ?_ ?_
  · exact ⟨undef, undef, undef, undef, undef, undef, by kernel_rfl, ⟨(bnil w0).drew, (fun h => by cases h), (fun h => by cases h), (fun h => by cases h), (fun h => by cases h), (fun h => by cases h), (fun h => by cases h), (fun h => by cases h)⟩⟩
  · intro j hj L b wr hR hLj hcl hpre
    obtain ⟨x4, x5, x6, x7, x8, x1, rfl, H⟩ := hR
    have hj' : j = 0 ∨ j = 1 ∨ j = 2 ∨ j = 3 ∨ j = 4 ∨ j = 5 ∨ j = 6 := by
      have : j < 7 := hj
      omega
    have lt0 := H.b.size
    rcases hj' with rfl | rfl | rfl | rfl | rfl | rfl | rfl
    · have hA : L 4 ≠ true := fun e => by have := hcl 4 0 (by kernel_rfl) e; rw [hLj] at this; cases this
      have hS : L 6 ≠ true := fun e => hA (hcl 6 4 (by kernel_rfl) e)
      clear hcl hpre
      refine wpOp_at rfl rfl fun K hK => ?_
      go_simp
      refine (once_words wr).mono ?_
      rintro e w1 ⟨v, rfl, ho⟩
      have Hb := H.below ho.below
      exact hK _ _ ⟨v, x5, x6, x7, x8, x1, by kernel_rfl, ⟨Hb.b, fun _ => own_lower ho.own lt0, Hb.f1, Hb.f2, Hb.f3, fun e => absurd e hA, Hb.f5, fun e => absurd e hS⟩⟩
    · have hB : L 2 ≠ true := fun e => by have := hcl 2 1 (by kernel_rfl) e; rw [hLj] at this; cases this
      clear hcl hpre
      refine wpOp_at rfl rfl fun K hK => ?_
      go_simp
      refine (once_try wr).mono ?_
      rintro e w1 ⟨v, rfl, ho⟩
      have Hb := H.below ho.below
      exact hK _ _ ⟨x4, v, x6, x7, x8, x1, by kernel_rfl, ⟨Hb.b, Hb.f0, fun _ => own_lower ho.own lt0, fun e => absurd e hB, Hb.f3, Hb.f4, Hb.f5, Hb.f6⟩⟩
    · have hA : L 4 ≠ true := fun e => by have := hcl 4 2 (by kernel_rfl) e; rw [hLj] at this; cases this
      have hS : L 6 ≠ true := fun e => hA (hcl 6 4 (by kernel_rfl) e)
      obtain ⟨A1, k1, e1, _⟩ := own_form (H.f1 (hpre 1 (by kernel_rfl)))
      clear hcl hpre
      refine wpOp_at rfl rfl fun K hK => ?_
      subst e1
      go_simp
      have Hb := H.below (bnew (bnil wr) (.cells #[.slice A1 (onceCode).length k1] 33))
      exact hK _ _ ⟨x4, _, .slice (some ⟨wr.heap.size, 0, none⟩) 1 1, x7, x8, x1, by kernel_rfl, ⟨Hb.b, Hb.f0, Hb.f1, fun _ => ⟨wr.heap.size, rfl, lt0, Blk.new wr _ _⟩, Hb.f3, fun e => absurd e hA, Hb.f5, fun e => absurd e hS⟩⟩
    · have hA : L 4 ≠ true := fun e => by have := hcl 4 3 (by kernel_rfl) e; rw [hLj] at this; cases this
      have hS : L 6 ≠ true := fun e => hA (hcl 6 4 (by kernel_rfl) e)
      clear hcl hpre
      refine wpOp_at rfl rfl fun K hK => ?_
      have hmk := mkT4 wr
      go_simp
      have Hb := H.below (bnew (bnil wr) (.cells #[.slice none 0 0, .slice none 0 0, .slice none 0 0, .slice none 0 0] 44))
      exact hK _ _ ⟨x4, x5, x6, .slice (some ⟨wr.heap.size, 0, none⟩) 4 4, x8, x1, by kernel_rfl, ⟨Hb.b, Hb.f0, Hb.f1, Hb.f2, fun _ => ⟨wr.heap.size, rfl, lt0, Blk.new wr _ _⟩, fun e => absurd e hA, Hb.f5, fun e => absurd e hS⟩⟩
    · have hS : L 6 ≠ true := fun e => by have := hcl 6 4 (by kernel_rfl) e; rw [hLj] at this; cases this
      obtain ⟨A0, k0, e0, _⟩ := own_form (H.f0 (hpre 0 (by kernel_rfl)))
      obtain ⟨b2, e2, _⟩ := H.f2 (hpre 2 (by kernel_rfl))
      obtain ⟨b3, e3, _⟩ := H.f3 (hpre 3 (by kernel_rfl))
      clear hcl hpre
      refine wpOp_at rfl rfl fun K hK => ?_
      subst e0; subst e2; subst e3
      go_simp
      exact hK _ _ ⟨_, x5, _, _, _, x1, by kernel_rfl, ⟨H.b, H.f0, H.f1, H.f2, H.f3, fun _ => rfl, H.f5, fun e => absurd e hS⟩⟩
    · have hS : L 6 ≠ true := fun e => by have := hcl 6 5 (by kernel_rfl) e; rw [hLj] at this; cases this
      clear hcl hpre
      refine wpOp_at rfl rfl fun K hK => ?_
      go_simp
      have Hb := H.below (bnew (bnil wr) (.cells #[.slice none 0 0, .slice none 0 0, .slice none 0 0] 27))
      exact hK _ _ ⟨x4, x5, x6, x7, x8, .pointer (some ⟨wr.heap.size, 0, none⟩), by kernel_rfl, ⟨Hb.b, Hb.f0, Hb.f1, Hb.f2, Hb.f3, Hb.f4, fun _ _ => ⟨wr.heap.size, rfl, lt0, Blk.new wr _ _⟩, fun e => absurd e hS⟩⟩
    · have eA := H.f4 (hpre 4 (by kernel_rfl))
      obtain ⟨X, eM, hX, hB⟩ := H.f5 (hpre 5 (by kernel_rfl)) hLj
      obtain ⟨A0, k0, e0, _⟩ := own_form (H.f0 (hcl 4 0 (by kernel_rfl) (hpre 4 (by kernel_rfl))))
      obtain ⟨b2, e2, _⟩ := H.f2 (hcl 4 2 (by kernel_rfl) (hpre 4 (by kernel_rfl)))
      obtain ⟨b3, e3, _⟩ := H.f3 (hcl 4 3 (by kernel_rfl) (hpre 4 (by kernel_rfl)))
      clear hcl hpre
      refine wpOp_at rfl rfl fun K hK => ?_
      subst eA; subst e0; subst e2; subst e3; subst eM
      have q0 := hB.cell 0; have q1 := hB.cell 1; have q2 := hB.cell 2
      have r0 := hB.frozen 0; have r1 := hB.frozen 1; have r2 := hB.frozen 2
      go_simp
      exact hK _ _ ⟨_, x5, _, _, _, _, by kernel_rfl, H.store hX hB (fun i hi => by simp [hi]) (by simp)⟩
  · intro L b wr hR hall
    obtain ⟨x4, x5, x6, x7, x8, x1, rfl, H⟩ := hR
    obtain ⟨X, rfl, hX, hB⟩ := H.f6 (hall 6 (by decide))
    obtain ⟨AW, cW, rfl, hcw, hcw2⟩ := own_form (H.f0 (hall 0 (by decide)))
    obtain ⟨Cb, rfl, hC, hCB⟩ := H.f2 (hall 2 (by decide))
    obtain ⟨T, rfl, hT, hTB⟩ := H.f3 (hall 3 (by decide))
    have BW := hid (bgo B0.out H.b)
    have RB2 := hid (RB.out.below' H.b)
    have HWO := hid (own_lower (H.f0 (hall 0 (by decide))) B00)
    have MM := hid (MN.start (B := w.heap.size) (w := wr) (nc := 1) (nt := 4) (cv := (fun i => [x5].getD i undef)) (ks := (fun i => [onceCode].getD i [])) (v := fun _ => undef) (Nat.le_trans B00 hC) (Nat.le_trans B00 hT) hCB hTB (fun i hi => (by obtain rfl : i = 0 := (by omega); exact own_lower (H.f1 (hall 1 (by decide))) B00)))
    have HB := hid hB
    have hX' := Nat.le_trans B00 hX
    have ltX := hB.lt
    clear hB hCB hTB hC hT hX H hall hcw hcw2
    go_wp2
    go_loopw [2] (fun t wx => ∃ (k : Nat) (tv : Nat → Value) (av : Nat → List SV), k ≤ 4 ∧ t = .int .i64 k ∧ Hid (Blk wx X 27 #[.slice AW 1 cW, .slice (some ⟨Cb, 0, none⟩) 1 1, .slice (some ⟨T, 0, none⟩) 4 4]) ∧ Hid (Blk wx w.heap.size 27 #[.slice none 0 0, .slice none 0 0, .slice none 0 0]) ∧
      Hid (wx.ownsRow w.heap.size 3 1 (.slice AW 1 cW) 1 ([(0 : Int)].flatMap gI)) ∧ Hid (MN w.heap.size wx 1 4 Cb T (fun i => [x5].getD i undef) (fun i => [onceCode].getD i []) tv (onceThs k 0) av) ∧ Hid (Below w.heap.size w wx)) (fun t _ => 4 - (intOf t).toNat)
    case atStart => exact ⟨0, fun _ => .slice none 0 0, fun _ => [], Nat.zero_le _, rfl, HB, RB2, HWO, (by rw [onceThs_zero]; exact MM), BW⟩
    case round =>
      obtain ⟨k, tv, av, hk4, rfl, HX, RX, WX, MX, BX⟩ := hrel
      by_cases h1 : k < 4
      · have i1 : (k : Int) < 4 := by omega
        go_wp2
        go_loopw [3] (fun v wy => ∃ (i : Nat) (tv : Nat → Value) (av : Nat → List SV), i ≤ 4 ∧ v = .int .i64 i ∧ Hid (Blk wy X 27 #[.slice AW 1 cW, .slice (some ⟨Cb, 0, none⟩) 1 1, .slice (some ⟨T, 0, none⟩) 4 4]) ∧ Hid (Blk wy w.heap.size 27 #[.slice none 0 0, .slice none 0 0, .slice none 0 0]) ∧
          Hid (wy.ownsRow w.heap.size 3 1 (.slice AW 1 cW) 1 ([(0 : Int)].flatMap gI)) ∧ Hid (MN w.heap.size wy 1 4 Cb T (fun i => [x5].getD i undef) (fun i => [onceCode].getD i []) tv (onceThs k i) av) ∧ Hid (Below w.heap.size w wy)) (fun v _ => 4 - (intOf v).toNat)
        case atStart => exact ⟨0, tv, av, Nat.zero_le _, rfl, HX, RX, WX, MX, BX⟩
        case round =>
          clear HX RX WX MX BX
          clear tv av
          obtain ⟨i, tv, av, hi4, rfl, HX, RX, WX, MX, BX⟩ := hrel
          by_cases h2 : i < 4
          · have i2 : (i : Int) < 4 := by omega
            have c2 : wr.cell? ⟨X, 2, none⟩ = some (.slice (some ⟨T, 0, none⟩) 4 4) := HX.out.cell 2
            have c3 : wr.cell? ⟨T, k, none⟩ = some (tv k) := by rw [MX.out.tb.cell k]; exact arrN_at tv h1
            have f3 : wr.frozen? ⟨T, k, none⟩ = false := MX.out.tb.frozen k
            have hrow := MX.out.rows k h1
            obtain ⟨Aj, cj, hAj, hcj1, hcj2⟩ := own_form hrow.2.1
            have hL : (onceThs k i k).length = i := by simp [onceThs, onceN]
            rw [hL] at hAj hcj1
            rw [hAj] at c3
            have HAJ := hid hAj
            have HROW := hid hrow
            have HLL := hid hL
            clear hAj hrow hL
            have ltT := World.block_lt_of_cell? wr _ c3
            obtain ⟨y, hy⟩ : ∃ y, (onceThs k i k).zip (av k) ++ [((⟨0, []⟩ : VCall), (⟨none, 0, 0⟩ : SV))] = y := ⟨_, rfl⟩
            have HYE := hid hy
            have HYL := hid (show y.length = i + 1 by rw [← hy, List.length_append, List.length_zip, HROW.out.1, HLL.out]; simp)
            clear hy
            have HBS := hid BX.out.size
            have HOW := hid (show ∀ w', Below wr.heap.size wr w' → w'.ownsRow w.heap.size 46 2 (.slice Aj i cj) ((onceThs k i k).zip (av k)).length (((onceThs k i k).zip (av k)).flatMap gS) from fun w' hb => by
              have h1 := own_below HROW.out.2.1 hb
              rw [HAJ.out] at h1
              rw [List.length_zip, HROW.out.1, Nat.min_self]
              exact h1)
            have HGW := hid (show ∀ wA w6, Below wr.heap.size wr wA → wA.grownBy w6 (Value.slice Aj i cj).ownBlock → (w6.cell? ⟨X, 2, none⟩ = some (.slice (some ⟨T, 0, none⟩) 4 4) ∧ w6.frozen? ⟨T, k, none⟩ = false) ∧ w6.cell? ⟨T, k, none⟩ = some (.slice Aj i cj) ∧
              ∀ v, ((w6.setCell ⟨T, k, none⟩ v).cell? ⟨X, 2, none⟩ = some (.slice (some ⟨T, 0, none⟩) 4 4) ∧ (w6.setCell ⟨T, k, none⟩ v).frozen? ⟨T, k, none⟩ = false) from fun wA w6 hb hG => by
              rw [← HAJ.out] at hG
              obtain ⟨g1, g2⟩ := MX.out.grown h1 hb hG
              have gX := g2 (by decide) HX.out
              exact ⟨⟨gX.cell 2, g1.frozen k⟩, by rw [g1.cell k, arrN_at tv h1, HAJ.out], fun v => ⟨(gX.far (p := ⟨T, k, none⟩) (gX.ne_ g1 (by decide)) v).cell 2, (g1.set_ k v).frozen k⟩⟩)
            go_upto_region 8 with fail
            refine wp_region_held_drew (S := (fun w' => w'.cell? ⟨X, 2, none⟩ = some (.slice (some ⟨T, 0, none⟩) 4 4) ∧ w'.frozen? ⟨T, k, none⟩ = false)) (by kernel_rfl) ?_ (fun hHeld => ?_)
            · (try dsimp only); (first | assumption | exact ⟨c2, f3⟩ | exact HZ.1 | exact HZ.2.2 _ | (refine sees2f ?_ c2 c3 f3; (repeat (first | exact bnil _ | refine Below.drew ?_ | refine bnew ?_ _))))
            refine wpAnyH_take (i := 0) (oi := ⟨some 17, _, _, _, _, _⟩) (v := ?_) rfl (by kernel_rfl) (by kernel_rfl) (by kernel_rfl) (fun _ _ _ h => h) (Or.inl ⟨by rfl, ?_⟩) (by assumption) ?_
            rotate_left
            · intro w hSw; (try dsimp only at hSw); go_simp <;> with_reducible rfl
            try simp only [Act.put, List.setIfInBounds_toArray, List.set_cons_zero, List.set_cons_succ]
            refine wpAnyH_take (i := 1) (oi := ⟨some 18, _, _, _, _, _⟩) (v := ?_) rfl (by kernel_rfl) (by kernel_rfl) (by kernel_rfl) (fun _ _ _ h => h) (Or.inl ⟨by rfl, ?_⟩) (by assumption) ?_
            rotate_left
            · intro w hSw; (try dsimp only at hSw); go_simp <;> with_reducible rfl
            try simp only [Act.put, List.setIfInBounds_toArray, List.set_cons_zero, List.set_cons_succ]
            refine wpAnyH_take (i := 2) (oi := ⟨some 19, _, _, _, _, _⟩) (v := ?_) rfl (by kernel_rfl) (by kernel_rfl) (by kernel_rfl) (fun _ _ _ h => h) (Or.inl ⟨by rfl, ?_⟩) (by assumption) ?_
            rotate_left
            · intro w hSw; (try dsimp only at hSw); go_simp <;> with_reducible rfl
            try simp only [Act.put, List.setIfInBounds_toArray, List.set_cons_zero, List.set_cons_succ]
            refine wpAnyH_take (i := 3) (oi := ⟨some 20, _, _, _, _, _⟩) (v := ?_) rfl (by kernel_rfl) (by kernel_rfl) (by kernel_rfl) (fun _ _ _ h => h) (Or.inl ⟨by rfl, ?_⟩) (by assumption) ?_
            rotate_left
            · intro w hSw; (try dsimp only at hSw); go_simp <;> with_reducible rfl
            try simp only [Act.put, List.setIfInBounds_toArray, List.set_cons_zero, List.set_cons_succ]
            refine wpAnyH_take (i := 4) (oi := ⟨some 21, _, _, _, _, _⟩) (v := ?_) rfl (by kernel_rfl) (by kernel_rfl) (by kernel_rfl) (fun _ _ _ h => h) (Or.inl ⟨by rfl, ?_⟩) (by assumption) ?_
            rotate_left
            · intro w hSw; (try dsimp only at hSw); go_simp <;> with_reducible rfl
            try simp only [Act.put, List.setIfInBounds_toArray, List.set_cons_zero, List.set_cons_succ]
            refine wpAnyH_take (i := 5) (oi := ⟨some 22, _, _, _, _, _⟩) (v := ?_) rfl (by kernel_rfl) (by kernel_rfl) (by kernel_rfl) (fun _ _ _ h => h) (Or.inl ⟨by rfl, ?_⟩) (by assumption) ?_
            rotate_left
            · intro w hSw; (try dsimp only at hSw); go_simp <;> with_reducible rfl
            try simp only [Act.put, List.setIfInBounds_toArray, List.set_cons_zero, List.set_cons_succ]
            refine wpAnyH_take (i := 6) (oi := ⟨some 23, _, _, _, _, _⟩) (v := ?_) rfl (by kernel_rfl) (by kernel_rfl) (by kernel_rfl) (fun _ _ _ h => h) (Or.inl ⟨by rfl, ?_⟩) (by assumption) ?_
            rotate_left
            · intro w hSw; (try dsimp only at hSw); go_simp <;> with_reducible rfl
            try simp only [Act.put, List.setIfInBounds_toArray, List.set_cons_zero, List.set_cons_succ]
            refine wpAnyH_take (i := 8) (oi := ⟨some 25, _, _, _, _, _⟩) (v := ?_) rfl (by kernel_rfl) (by kernel_rfl) (by kernel_rfl) (fun _ _ _ h => h) (Or.inl ⟨by rfl, ?_⟩) (by assumption) ?_
            rotate_left
            · intro w hSw; (try dsimp only at hSw); go_simp <;> with_reducible rfl
            try simp only [Act.put, List.setIfInBounds_toArray, List.set_cons_zero, List.set_cons_succ]
            refine wpAnyH_ready (rs := [7, 9]) (by kernel_rfl) (by simp) ?_
            refine AllReadyH.cons (o := ⟨some 24, _, _, _, _, _⟩) rfl (fun K hK => ?_) ?_
            go_simp
            refine hK.out _ _ ?_ (fun hHeld => ?_)
            · (try dsimp only); (first | assumption | exact ⟨c2, f3⟩ | exact HZ.1 | exact HZ.2.2 _ | (refine sees2f ?_ c2 c3 f3; (repeat (first | exact bnil _ | refine Below.drew ?_ | refine bnew ?_ _))))
            clear hK K
            try simp only [Act.put, List.setIfInBounds_toArray, List.set_cons_zero, List.set_cons_succ]
            refine wpAnyH_ready (rs := [9]) (by kernel_rfl) (by simp) ?_
            refine AllReadyH.cons (o := ⟨some 26, _, _, _, _, _⟩) rfl (fun K hK => ?_) AllReadyH.nil
            go_simp
            refine hK.out _ _ ?_ (fun hHeld => ?_)
            · (try dsimp only); (first | assumption | exact ⟨c2, f3⟩ | exact HZ.1 | exact HZ.2.2 _ | (refine sees2f ?_ c2 c3 f3; (repeat (first | exact bnil _ | refine Below.drew ?_ | refine bnew ?_ _))))
            clear hK K
            try simp only [Act.put, List.setIfInBounds_toArray, List.set_cons_zero, List.set_cons_succ]
            refine wpAnyH_ready (rs := [10]) (by kernel_rfl) (by simp) ?_
            refine AllReadyH.cons (o := ⟨some 27, _, _, _, _, _⟩) rfl (fun K hK => ?_) AllReadyH.nil
            (refine step_appC elmCN gS_one rfl (.tmp 24) (.tmp 26) rfl (.slice Aj i cj) ((onceThs k i k).zip (av k)) rfl (HOW.out _ (bnew (bnil _) _).drew) [((⟨0, []⟩ : VCall), (⟨none, 0, 0⟩ : SV))] y HYE rfl (Sl.drew (Sl.fresh' _ #[_, _] 46 2 1 _ (by simp) rfl)) rfl (by rw [HYL.out]; simp only [maxLen]; omega) (by rw [HYL.out]; omega) (Nat.le_trans HBS.out (bnew (bnil _) _).drew.size) ?_; intro E6 c6 w6 hc6 hc7 HN6 HG6 HO6; have HZ := HGW.out _ w6 (bnew (bnil _) _).drew HG6.out)
            refine hK.out _ _ ?_ (fun hHeld => ?_)
            · (try dsimp only); (first | assumption | exact ⟨c2, f3⟩ | exact HZ.1 | exact HZ.2.2 _ | (refine sees2f ?_ c2 c3 f3; (repeat (first | exact bnil _ | refine Below.drew ?_ | refine bnew ?_ _))))
            clear hK K
            try simp only [Act.put, List.setIfInBounds_toArray, List.set_cons_zero, List.set_cons_succ]
            refine wpAnyH_take (i := 11) (oi := ⟨some 28, _, _, _, _, _⟩) (v := ?_) rfl (by kernel_rfl) (by kernel_rfl) (by kernel_rfl) (fun _ _ _ h => h) (Or.inl ⟨by rfl, ?_⟩) (by assumption) ?_
            rotate_left
            · intro w hSw; (try dsimp only at hSw); go_simp <;> with_reducible rfl
            try simp only [Act.put, List.setIfInBounds_toArray, List.set_cons_zero, List.set_cons_succ]
            refine wpAnyH_ready (rs := [12]) (by kernel_rfl) (by simp) ?_
            refine AllReadyH.cons (o := ⟨none, _, _, _, _, _⟩) rfl (fun K hK => ?_) AllReadyH.nil
            go_simp
            refine hK.out _ _ ?_ (fun hHeld => ?_)
            · (try dsimp only); (first | assumption | exact ⟨c2, f3⟩ | exact HZ.1 | exact HZ.2.2 _ | (refine sees2f ?_ c2 c3 f3; (repeat (first | exact bnil _ | refine Below.drew ?_ | refine bnew ?_ _))))
            clear hK K
            try dsimp only [Act.put]
            refine wpAnyH_done (by kernel_rfl) ?_ _
            rotate_left
            refine AllReadyH.cons (o := ⟨some 26, _, _, _, _, _⟩) rfl (fun K hK => ?_) AllReadyH.nil
            go_simp
            refine hK.out _ _ ?_ (fun hHeld => ?_)
            · (try dsimp only); (first | assumption | exact ⟨c2, f3⟩ | exact HZ.1 | exact HZ.2.2 _ | (refine sees2f ?_ c2 c3 f3; (repeat (first | exact bnil _ | refine Below.drew ?_ | refine bnew ?_ _))))
            clear hK K
            try simp only [Act.put, List.setIfInBounds_toArray, List.set_cons_zero, List.set_cons_succ]
            refine wpAnyH_ready (rs := [7]) (by kernel_rfl) (by simp) ?_
            refine AllReadyH.cons (o := ⟨some 24, _, _, _, _, _⟩) rfl (fun K hK => ?_) AllReadyH.nil
            go_simp
            refine hK.out _ _ ?_ (fun hHeld => ?_)
            · (try dsimp only); (first | assumption | exact ⟨c2, f3⟩ | exact HZ.1 | exact HZ.2.2 _ | (refine sees2f ?_ c2 c3 f3; (repeat (first | exact bnil _ | refine Below.drew ?_ | refine bnew ?_ _))))
            clear hK K
            try simp only [Act.put, List.setIfInBounds_toArray, List.set_cons_zero, List.set_cons_succ]
            refine wpAnyH_ready (rs := [10]) (by kernel_rfl) (by simp) ?_
            refine AllReadyH.cons (o := ⟨some 27, _, _, _, _, _⟩) rfl (fun K hK => ?_) AllReadyH.nil
            (refine step_appC elmCN gS_one rfl (.tmp 24) (.tmp 26) rfl (.slice Aj i cj) ((onceThs k i k).zip (av k)) rfl (HOW.out _ (bnew (bnil _) _).drew) [((⟨0, []⟩ : VCall), (⟨none, 0, 0⟩ : SV))] y HYE rfl (Sl.drew (Sl.fresh' _ #[_, _] 46 2 1 _ (by simp) rfl)) rfl (by rw [HYL.out]; simp only [maxLen]; omega) (by rw [HYL.out]; omega) (Nat.le_trans HBS.out (bnew (bnil _) _).drew.size) ?_; intro E6 c6 w6 hc6 hc7 HN6 HG6 HO6; have HZ := HGW.out _ w6 (bnew (bnil _) _).drew HG6.out)
            refine hK.out _ _ ?_ (fun hHeld => ?_)
            · (try dsimp only); (first | assumption | exact ⟨c2, f3⟩ | exact HZ.1 | exact HZ.2.2 _ | (refine sees2f ?_ c2 c3 f3; (repeat (first | exact bnil _ | refine Below.drew ?_ | refine bnew ?_ _))))
            clear hK K
            try simp only [Act.put, List.setIfInBounds_toArray, List.set_cons_zero, List.set_cons_succ]
            refine wpAnyH_take (i := 11) (oi := ⟨some 28, _, _, _, _, _⟩) (v := ?_) rfl (by kernel_rfl) (by kernel_rfl) (by kernel_rfl) (fun _ _ _ h => h) (Or.inl ⟨by rfl, ?_⟩) (by assumption) ?_
            rotate_left
            · intro w hSw; (try dsimp only at hSw); go_simp <;> with_reducible rfl
            try simp only [Act.put, List.setIfInBounds_toArray, List.set_cons_zero, List.set_cons_succ]
            refine wpAnyH_ready (rs := [12]) (by kernel_rfl) (by simp) ?_
            refine AllReadyH.cons (o := ⟨none, _, _, _, _, _⟩) rfl (fun K hK => ?_) AllReadyH.nil
            go_simp
            refine hK.out _ _ ?_ (fun hHeld => ?_)
            · (try dsimp only); (first | assumption | exact ⟨c2, f3⟩ | exact HZ.1 | exact HZ.2.2 _ | (refine sees2f ?_ c2 c3 f3; (repeat (first | exact bnil _ | refine Below.drew ?_ | refine bnew ?_ _))))
            clear hK K
            try dsimp only [Act.put]
            refine wpAnyH_done (by kernel_rfl) ?_ _
            rotate_left
            all_goals
              obtain ⟨g1, g2⟩ := MX.out.grown h1 (bnew (bnil _) _).drew (by rw [HAJ.out]; exact HG6.out)
              have HX6 := hid ((g2 (by decide) HX.out).far (p := ⟨T, k, none⟩) ((g2 (by decide) HX.out).ne_ g1 (by decide)) (.slice E6 y.length c6))
              have HR6 := hid ((g2 (by decide) RX.out).far (p := ⟨T, k, none⟩) ((g2 (by decide) RX.out).ne_ g1 (by decide)) (.slice E6 y.length c6))
              have HB6 := hid (MX.out.chg h1 (bnew (bnil _) _).drew (by rw [HAJ.out]; exact HG6.out) BX.out rfl (.slice E6 y.length c6)).2
              have HW6 := hid (MX.out.other h1 (bnew (bnil _) _).drew (by rw [HAJ.out]; exact HG6.out) WX.out (by decide) (by decide) (.slice E6 y.length c6))
              have HM6 := hid (MX.out.snoc h1 [⟨0, []⟩] [⟨none, 0, 0⟩] (bnew (bnil _) _).drew rfl one_own HYE.out (by rw [HAJ.out]; exact HG6.out) (by rw [HAJ.out]; exact HO6.out) HN6.out)
              clear g1 g2 HZ HG6 HO6 HN6
              go_wp2
              go_roundw
              case rel => exact ⟨i + 1, _, _, by omega, by go_num, HX6, HR6, HW6, hid (by have h1 := HM6.out; rw [onceThs_upd] at h1; exact h1), HB6⟩
              case measure => simp [intOf]; omega
          · obtain rfl : i = 4 := by omega
            have i2 : ¬ (((4 : Nat) : Int)) < 4 := by omega
            go_wp2
            go_roundw
            case rel => exact ⟨k + 1, _, _, by omega, by go_num, HX, RX, WX, hid (by have h1 := MX.out; rw [onceThs_next] at h1; exact h1), BX⟩
            case measure => simp [intOf]; omega
      · obtain rfl : k = 4 := by omega
        have i1 : ¬ (((4 : Nat) : Int)) < 4 := by omega
        have y0 : wr.cell? ⟨X, 0, none⟩ = some (.slice AW 1 cW) := HX.out.cell 0
        have y1 : wr.cell? ⟨X, 1, none⟩ = some (.slice (some ⟨Cb, 0, none⟩) 1 1) := HX.out.cell 1
        have y2 : wr.cell? ⟨X, 2, none⟩ = some (.slice (some ⟨T, 0, none⟩) 4 4) := HX.out.cell 2
        have z0 := RX.out.frozen 0
        have z1 := RX.out.frozen 1
        have z2 := RX.out.frozen 2
        have z3 : wr.cell? ⟨w.heap.size, 0, none⟩ = some (.slice none 0 0) := RX.out.cell 0
        have z4 : wr.cell? ⟨w.heap.size, 1, none⟩ = some (.slice none 0 0) := RX.out.cell 1
        have z5 : wr.cell? ⟨w.heap.size, 2, none⟩ = some (.slice none 0 0) := RX.out.cell 2
        go_wp2
        obtain ⟨q0, q1, q2⟩ := set3N RX.out (.slice AW 1 cW) (.slice (some ⟨Cb, 0, none⟩) 1 1) (.slice (some ⟨T, 0, none⟩) 4 4)
        refine bodyPost_ret (v := .agg #[.slice AW 1 cW, .slice (some ⟨Cb, 0, none⟩) 1 1, .slice (some ⟨T, 0, none⟩) 4 4]) (by simp [results, Tryd.results17, go_sem, q0, q1, q2]) rfl ?_
        exact ⟨AW, cW, Cb, T, _, tv, av, rfl, own_res WX.out RX.out (by decide) _ _ _, MX.out.res RX.out _ _ _, below3N BX.out _ _ _⟩
end Go.Proofs.YtnoinojhocicjaaDoor
