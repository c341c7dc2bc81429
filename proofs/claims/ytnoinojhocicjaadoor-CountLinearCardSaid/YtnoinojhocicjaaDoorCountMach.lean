/-
  barographkeep.countMachine: what it builds. Written by gen_count.py.
-/
import Derived.Test.YtnoinojhocicjaaDoorInv
import Derived.Test.YtnoinojhocicjaaDoorMachN
import Derived.Test.YtnoinojhocicjaaDoorCodes1
namespace Go.Proofs.YtnoinojhocicjaaDoor
open Go.RowKit
set_option linter.unusedVariables false

theorem count_words (w : World) : Calls Tryd.prog 45 #[] w fun e w' => ∃ v, e = .returned v ∧ Ow w w' 3 1 gI v [0] := by
  go_enter Tryd.func45, Tryd.ntmps45
  go_wp2
  go_ret
  exact ⟨_, rfl, ⟨own_fresh w _ 3 1 1 _ _ rfl (Nat.le_refl _) rfl (by simp [maxLen]), bnew (bnil w) _⟩⟩
theorem add_sh : ∀ o ∈ addCode, OpSh 5 o := by
  intro o ho
  simp only [addCode, List.mem_cons, List.not_mem_nil, or_false] at ho
  rcases ho with rfl | rfl | rfl | rfl | rfl
  all_goals exact ⟨by decide, by decide, by decide, by decide, by decide⟩
theorem get_sh : ∀ o ∈ getCode, OpSh 2 o := by
  intro o ho
  simp only [getCode, List.mem_cons, List.not_mem_nil, or_false] at ho
  rcases ho with rfl | rfl
  all_goals exact ⟨by decide, by decide, by decide, by decide, by decide⟩
/-- the first region of count's machine -/
structure countR (w0 : World)  (L : Nat → Bool) (x7 x8 x9 x10 x11 x12 x3 : Value) (w : World) : Prop where
  b : Below w0.heap.size w0 w
  f0 : L 0 = true → w.ownsRow w0.heap.size 3 1 x7 1 (([0]).flatMap gI)
  f1 : L 1 = true → w.ownsRow w0.heap.size 81 5 x8 (addCode).length ((addCode).flatMap gO)
  f2 : L 2 = true → w.ownsRow w0.heap.size 81 5 x9 (getCode).length ((getCode).flatMap gO)
  f3 : L 3 = true → ∃ b, x10 = .slice (some ⟨b, 0, none⟩) 2 2 ∧ w0.heap.size ≤ b ∧ Blk w b 33 #[x8, x9]
  f4 : L 4 = true → ∃ b, x11 = .slice (some ⟨b, 0, none⟩) 3 3 ∧ w0.heap.size ≤ b ∧ Blk w b 44 #[.slice none 0 0, .slice none 0 0, .slice none 0 0]
  f5 : L 5 = true → x12 = .agg #[x7, x10, x11]
  f6 : L 6 = true → L 7 = false → ∃ b, x3 = .pointer (some ⟨b, 0, none⟩) ∧ w0.heap.size ≤ b ∧ Blk w b 27 #[.slice none 0 0, .slice none 0 0, .slice none 0 0]
  f7 : L 7 = true → ∃ b, x3 = .pointer (some ⟨b, 0, none⟩) ∧ w0.heap.size ≤ b ∧ Blk w b 27 #[x7, x10, x11]
section
variable {w0 : World}  {L : Nat → Bool} {x7 x8 x9 x10 x11 x12 x3 : Value} {w w' : World}
theorem countR.below (h : countR w0 L x7 x8 x9 x10 x11 x12 x3 w) (hb : Below w.heap.size w w') : countR w0 L x7 x8 x9 x10 x11 x12 x3 w' where
  b := bgo h.b hb
  f0 := fun e => own_below (h.f0 e) hb
  f1 := fun e => own_below (h.f1 e) hb
  f2 := fun e => own_below (h.f2 e) hb
  f3 := fun e => by obtain ⟨b, h1, h2, h3⟩ := h.f3 e; exact ⟨b, h1, h2, h3.below' hb⟩
  f4 := fun e => by obtain ⟨b, h1, h2, h3⟩ := h.f4 e; exact ⟨b, h1, h2, h3.below' hb⟩
  f5 := h.f5
  f6 := fun e e' => by obtain ⟨b, h1, h2, h3⟩ := h.f6 e e'; exact ⟨b, h1, h2, h3.below' hb⟩
  f7 := fun e => by obtain ⟨b, h1, h2, h3⟩ := h.f7 e; exact ⟨b, h1, h2, h3.below' hb⟩
theorem countR.store {X : Nat} {L' : Nat → Bool} (h : countR w0 L x7 x8 x9 x10 x11 x12 (.pointer (some ⟨X, 0, none⟩)) w) (hX : w0.heap.size ≤ X)
    (hb : Blk w X 27 #[.slice none 0 0, .slice none 0 0, .slice none 0 0]) (hL : ∀ i, i ≠ 7 → L' i = L i) (h9 : L' 7 = true) :
    countR w0 L' x7 x8 x9 x10 x11 x12 (.pointer (some ⟨X, 0, none⟩)) (((w.setCell ⟨X, 0, none⟩ x7).setCell ⟨X, 1, none⟩ x10).setCell ⟨X, 2, none⟩ x11) := by
  have hC : Chg (fun k => k = X) w (((w.setCell ⟨X, 0, none⟩ x7).setCell ⟨X, 1, none⟩ x10).setCell ⟨X, 2, none⟩ x11) :=
    (((Chg.refl (fun k => k = X) w).setCell (p := ⟨X, 0, none⟩) (fun _ => rfl) _).setCell (p := ⟨X, 1, none⟩) (fun _ => rfl) _).setCell (p := ⟨X, 2, none⟩) (fun _ => rfl) _
  have bk : ∀ {g t : Nat} {cs : Array Value}, t ≠ 27 → Blk w g t cs → Blk (((w.setCell ⟨X, 0, none⟩ x7).setCell ⟨X, 1, none⟩ x10).setCell ⟨X, 2, none⟩ x11) g t cs := fun h1 h2 => hC.blk h2 fun e => by subst e; exact h1 (blk_ty h2 hb)
  have ok : ∀ {B e sz : Nat} {v' : Value} {n : Nat} {xs : List Value}, e ≠ 27 → w.ownsRow B e sz v' n xs → (((w.setCell ⟨X, 0, none⟩ x7).setCell ⟨X, 1, none⟩ x10).setCell ⟨X, 2, none⟩ x11).ownsRow B e sz v' n xs := fun h1 h2 => own_chg h2 hC fun k hk e => own_ne_blk h2 hb h1 (by rw [hk, e])
  have e0 := hL 0 (by decide)
  have e1 := hL 1 (by decide)
  have e2 := hL 2 (by decide)
  have e3 := hL 3 (by decide)
  have e4 := hL 4 (by decide)
  have e5 := hL 5 (by decide)
  refine ⟨((h.b.setCell (p := ⟨X, 0, none⟩) hX _).setCell (p := ⟨X, 1, none⟩) hX _).setCell (p := ⟨X, 2, none⟩) hX _, ?_, ?_, ?_, ?_, ?_, ?_, ?_, ?_⟩
  · rw [e0]; intro e; exact ok (by decide) (h.f0 e)
  · rw [e1]; intro e; exact ok (by decide) (h.f1 e)
  · rw [e2]; intro e; exact ok (by decide) (h.f2 e)
  · rw [e3]; intro e; obtain ⟨b, h1, h2, h3⟩ := h.f3 e; exact ⟨b, h1, h2, bk (by decide) h3⟩
  · rw [e4]; intro e; obtain ⟨b, h1, h2, h3⟩ := h.f4 e; exact ⟨b, h1, h2, bk (by decide) h3⟩
  · rw [e5]; exact h.f5
  · intro _ e; rw [h9] at e; cases e
  · intro _; exact ⟨X, rfl, hX, ((hb.set_ 0 _).set_ 1 _).set_ 2 _⟩
end
/-- the number that the call k adds; 0: it gets -/
def cnum (xs : List Int) (k : Nat) : Nat := match xs[k]? with | some x => pk x 6 | none => 0
def ccall (n : Nat) : VCall := if n = 0 then ⟨1, []⟩ else ⟨0, [(n : Int)]⟩
/-- the calls of thread j among the first k -/
def countThs (xs : List Int) : Nat → Nat → List VCall
  | 0, _ => []
  | k + 1, j => if k % 3 = j then countThs xs k j ++ [ccall (cnum xs k)] else countThs xs k j
theorem countThs_len (xs : List Int) : ∀ (k j : Nat), (countThs xs k j).length ≤ k
  | 0, _ => Nat.le_refl _
  | k + 1, j => by
    have := countThs_len xs k j
    unfold countThs
    split
    · rw [List.length_append, List.length_singleton]; omega
    · omega
theorem countThs_mem (xs : List Int) : ∀ (k j : Nat) (c : VCall), c ∈ countThs xs k j → ∃ z : Nat, c = ccall z
  | 0, _, c, h => by cases h
  | k + 1, j, c, h => by
    unfold countThs at h
    split at h
    · rcases List.mem_append.1 h with h | h
      · exact countThs_mem xs k j c h
      · exact ⟨_, List.mem_singleton.1 h⟩
    · exact countThs_mem xs k j c h
theorem countThs_upd (xs : List Int) {k j : Nat} (hj : k % 3 = j) : upd (countThs xs k) j (countThs xs k j ++ [ccall (cnum xs k)]) = countThs xs (k + 1) := by
  subst hj
  funext j
  unfold upd
  rw [show countThs xs (k + 1) j = if k % 3 = j then countThs xs k j ++ [ccall (cnum xs k)] else countThs xs k j from rfl]
  by_cases h : j = k % 3
  · subst h; simp
  · rw [if_neg h, if_neg (fun e => h e.symm)]
theorem sees4f {W w' : World} {p q r s : Addr} {u v x y : Value} (h : Below W.heap.size W w') (hp : W.cell? p = some u) (hq : W.cell? q = some v) (hf : W.frozen? q = false) (hr : W.cell? r = some x) (hs : W.cell? s = some y) : w'.cell? p = some u ∧ w'.frozen? q = false ∧ w'.cell? r = some x ∧ w'.cell? s = some y := ⟨cell_below h hp, frozen_below h hq hf, cell_below h hr, cell_below h hs⟩
set_option maxHeartbeats 4000000 in
set_option maxRecDepth 100000 in
theorem count_machine (D : Option Addr) (r s : Nat) (cs : List Int) (w : World) (hr : r ≤ 9223372036854775807) (hD : Sl w 1 D r (ints cs)) (hds : ∀ x ∈ cs, -9223372036854775808 ≤ x ∧ x ≤ 9223372036854775807) :
    Calls Tryd.prog 26 #[.slice D r s] w fun e w' => MachPostN w [0] 2 3 (fun i => [addCode, getCode].getD i []) (countThs cs 9) e w' := by
  have HDD := hid hD; have HDS := hid hds; have HRL := hid hD.leni
  clear hD hds
  go_enter Tryd.func26, Tryd.ntmps26
  go_upto_region 1 with fail
  obtain ⟨w0, hw0⟩ : ∃ w0, w.alloc (.cells #[.slice none 0 0, .slice none 0 0, .slice none 0 0] 27) = w0 := ⟨_, rfl⟩
  rw [hw0]
  have B0 := hid (show Below w.heap.size w w0 by rw [← hw0]; exact bnew (bnil w) _)
  have RB := hid (show Blk w0 w.heap.size 27 #[.slice none 0 0, .slice none 0 0, .slice none 0 0] by rw [← hw0]; exact Blk.new w _ _)
  clear hw0
  have B00 := B0.out.size
  refine wp_region_inv (by kernel_rfl) (fun a0 L a wr => ∃ x7 x8 x9 x10 x11 x12 x3, a = (((((((a0.put (some 7) x7).put (some 8) x8).put (some 9) x9).put (some 10) x10).put (some 11) x11).put (some 12) x12).put (some 3) x3) ∧ countR w0 L x7 x8 x9 x10 x11 x12 x3 wr) (by kernel_rfl) ?_ ?_ ?_
  · exact ⟨undef, undef, undef, undef, undef, undef, undef, by kernel_rfl, ⟨(bnil w0).drew, (fun h => by cases h), (fun h => by cases h), (fun h => by cases h), (fun h => by cases h), (fun h => by cases h), (fun h => by cases h), (fun h => by cases h), (fun h => by cases h)⟩⟩
  · intro j hj L b wr hR hLj hcl hpre
    obtain ⟨x7, x8, x9, x10, x11, x12, x3, rfl, H⟩ := hR
    have hj' : j = 0 ∨ j = 1 ∨ j = 2 ∨ j = 3 ∨ j = 4 ∨ j = 5 ∨ j = 6 ∨ j = 7 := by
      have : j < 8 := hj
      omega
    have lt0 := H.b.size
    rcases hj' with rfl | rfl | rfl | rfl | rfl | rfl | rfl | rfl
    · have hA : L 5 ≠ true := fun e => by have := hcl 5 0 (by kernel_rfl) e; rw [hLj] at this; cases this
      have hS : L 7 ≠ true := fun e => hA (hcl 7 5 (by kernel_rfl) e)
      clear hcl hpre
      refine wpOp_at rfl rfl fun K hK => ?_
      go_simp
      refine (count_words wr).mono ?_
      rintro e w1 ⟨v, rfl, ho⟩
      have Hb := H.below ho.below
      exact hK _ _ ⟨v, x8, x9, x10, x11, x12, x3, by kernel_rfl, ⟨Hb.b, fun _ => own_lower ho.own lt0, Hb.f1, Hb.f2, Hb.f3, Hb.f4, fun e => absurd e hA, Hb.f6, fun e => absurd e hS⟩⟩
    · have hB : L 3 ≠ true := fun e => by have := hcl 3 1 (by kernel_rfl) e; rw [hLj] at this; cases this
      clear hcl hpre
      refine wpOp_at rfl rfl fun K hK => ?_
      go_simp
      refine (count_add wr).mono ?_
      rintro e w1 ⟨v, rfl, ho⟩
      have Hb := H.below ho.below
      exact hK _ _ ⟨x7, v, x9, x10, x11, x12, x3, by kernel_rfl, ⟨Hb.b, Hb.f0, fun _ => own_lower ho.own lt0, Hb.f2, fun e => absurd e hB, Hb.f4, Hb.f5, Hb.f6, Hb.f7⟩⟩
    · have hB : L 3 ≠ true := fun e => by have := hcl 3 2 (by kernel_rfl) e; rw [hLj] at this; cases this
      clear hcl hpre
      refine wpOp_at rfl rfl fun K hK => ?_
      go_simp
      refine (count_get wr).mono ?_
      rintro e w1 ⟨v, rfl, ho⟩
      have Hb := H.below ho.below
      exact hK _ _ ⟨x7, x8, v, x10, x11, x12, x3, by kernel_rfl, ⟨Hb.b, Hb.f0, Hb.f1, fun _ => own_lower ho.own lt0, fun e => absurd e hB, Hb.f4, Hb.f5, Hb.f6, Hb.f7⟩⟩
    · have hA : L 5 ≠ true := fun e => by have := hcl 5 3 (by kernel_rfl) e; rw [hLj] at this; cases this
      have hS : L 7 ≠ true := fun e => hA (hcl 7 5 (by kernel_rfl) e)
      obtain ⟨A1, k1, e1, _⟩ := own_form (H.f1 (hpre 1 (by kernel_rfl)))
      obtain ⟨A2, k2, e2, _⟩ := own_form (H.f2 (hpre 2 (by kernel_rfl)))
      clear hcl hpre
      refine wpOp_at rfl rfl fun K hK => ?_
      subst e1
      subst e2
      go_simp
      have Hb := H.below (bnew (bnil wr) (.cells #[.slice A1 (addCode).length k1, .slice A2 (getCode).length k2] 33))
      exact hK _ _ ⟨x7, _, _, .slice (some ⟨wr.heap.size, 0, none⟩) 2 2, x11, x12, x3, by kernel_rfl, ⟨Hb.b, Hb.f0, Hb.f1, Hb.f2, fun _ => ⟨wr.heap.size, rfl, lt0, Blk.new wr _ _⟩, Hb.f4, fun e => absurd e hA, Hb.f6, fun e => absurd e hS⟩⟩
    · have hA : L 5 ≠ true := fun e => by have := hcl 5 4 (by kernel_rfl) e; rw [hLj] at this; cases this
      have hS : L 7 ≠ true := fun e => hA (hcl 7 5 (by kernel_rfl) e)
      clear hcl hpre
      refine wpOp_at rfl rfl fun K hK => ?_
      have hmk := mkT3 wr
      go_simp
      have Hb := H.below (bnew (bnil wr) (.cells #[.slice none 0 0, .slice none 0 0, .slice none 0 0] 44))
      exact hK _ _ ⟨x7, x8, x9, x10, .slice (some ⟨wr.heap.size, 0, none⟩) 3 3, x12, x3, by kernel_rfl, ⟨Hb.b, Hb.f0, Hb.f1, Hb.f2, Hb.f3, fun _ => ⟨wr.heap.size, rfl, lt0, Blk.new wr _ _⟩, fun e => absurd e hA, Hb.f6, fun e => absurd e hS⟩⟩
    · have hS : L 7 ≠ true := fun e => by have := hcl 7 5 (by kernel_rfl) e; rw [hLj] at this; cases this
      obtain ⟨A0, k0, e0, _⟩ := own_form (H.f0 (hpre 0 (by kernel_rfl)))
      obtain ⟨b2, e2, _⟩ := H.f3 (hpre 3 (by kernel_rfl))
      obtain ⟨b3, e3, _⟩ := H.f4 (hpre 4 (by kernel_rfl))
      clear hcl hpre
      refine wpOp_at rfl rfl fun K hK => ?_
      subst e0; subst e2; subst e3
      go_simp
      exact hK _ _ ⟨_, x8, x9, _, _, _, x3, by kernel_rfl, ⟨H.b, H.f0, H.f1, H.f2, H.f3, H.f4, fun _ => rfl, H.f6, fun e => absurd e hS⟩⟩
    · have hS : L 7 ≠ true := fun e => by have := hcl 7 6 (by kernel_rfl) e; rw [hLj] at this; cases this
      clear hcl hpre
      refine wpOp_at rfl rfl fun K hK => ?_
      go_simp
      have Hb := H.below (bnew (bnil wr) (.cells #[.slice none 0 0, .slice none 0 0, .slice none 0 0] 27))
      exact hK _ _ ⟨x7, x8, x9, x10, x11, x12, .pointer (some ⟨wr.heap.size, 0, none⟩), by kernel_rfl, ⟨Hb.b, Hb.f0, Hb.f1, Hb.f2, Hb.f3, Hb.f4, Hb.f5, fun _ _ => ⟨wr.heap.size, rfl, lt0, Blk.new wr _ _⟩, fun e => absurd e hS⟩⟩
    · have eA := H.f5 (hpre 5 (by kernel_rfl))
      obtain ⟨X, eM, hX, hB⟩ := H.f6 (hpre 6 (by kernel_rfl)) hLj
      obtain ⟨A0, k0, e0, _⟩ := own_form (H.f0 (hcl 5 0 (by kernel_rfl) (hpre 5 (by kernel_rfl))))
      obtain ⟨b2, e2, _⟩ := H.f3 (hcl 5 3 (by kernel_rfl) (hpre 5 (by kernel_rfl)))
      obtain ⟨b3, e3, _⟩ := H.f4 (hcl 5 4 (by kernel_rfl) (hpre 5 (by kernel_rfl)))
      clear hcl hpre
      refine wpOp_at rfl rfl fun K hK => ?_
      subst eA; subst e0; subst e2; subst e3; subst eM
      have q0 := hB.cell 0; have q1 := hB.cell 1; have q2 := hB.cell 2
      have r0 := hB.frozen 0; have r1 := hB.frozen 1; have r2 := hB.frozen 2
      go_simp
      exact hK _ _ ⟨_, x8, x9, _, _, _, _, by kernel_rfl, H.store hX hB (fun i hi => by simp [hi]) (by simp)⟩
  · intro L b wr hR hall
    obtain ⟨x7, x8, x9, x10, x11, x12, x3, rfl, H⟩ := hR
    obtain ⟨X, rfl, hX, hB⟩ := H.f7 (hall 7 (by decide))
    obtain ⟨AW, cW, rfl, hcw, hcw2⟩ := own_form (H.f0 (hall 0 (by decide)))
    obtain ⟨Cb, rfl, hC, hCB⟩ := H.f3 (hall 3 (by decide))
    obtain ⟨T, rfl, hT, hTB⟩ := H.f4 (hall 4 (by decide))
    have BW := hid (bgo B0.out H.b)
    have RB2 := hid (RB.out.below' H.b)
    have HWO := hid (own_lower (H.f0 (hall 0 (by decide))) B00)
    have MM := hid (MN.start (B := w.heap.size) (w := wr) (nc := 2) (nt := 3) (cv := (fun i => [x8, x9].getD i undef)) (ks := (fun i => [addCode, getCode].getD i [])) (v := fun _ => undef) (Nat.le_trans B00 hC) (Nat.le_trans B00 hT) hCB hTB (fun i hi => (by rcases (show i = 0 ∨ i = 1 by omega) with rfl | rfl <;> first | exact own_lower (H.f1 (hall 1 (by decide))) B00 | exact own_lower (H.f2 (hall 2 (by decide))) B00)))
    have HB := hid hB
    have hX' := Nat.le_trans B00 hX
    have ltX := hB.lt
    clear hB hCB hTB hC hT hX H hall hcw hcw2
    have MM := hid (show MN w.heap.size wr 2 3 Cb T (fun i => [x8, x9].getD i undef) (fun i => [addCode, getCode].getD i []) (fun _ => .slice none 0 0) (countThs cs 0) (fun _ => []) from MM.out)
    go_wp2
    go_loopw [4] (fun v wx => ∃ (k : Nat) (tv : Nat → Value) (av : Nat → List SV), k ≤ 9 ∧ v = .int .i64 k ∧ Hid (Blk wx X 27 #[.slice AW 1 cW, .slice (some ⟨Cb, 0, none⟩) 2 2, .slice (some ⟨T, 0, none⟩) 3 3]) ∧ Hid (Blk wx w.heap.size 27 #[.slice none 0 0, .slice none 0 0, .slice none 0 0]) ∧
      Hid (wx.ownsRow w.heap.size 3 1 (.slice AW 1 cW) 1 ([(0 : Int)].flatMap gI)) ∧ Hid (MN w.heap.size wx 2 3 Cb T (fun i => [x8, x9].getD i undef) (fun i => [addCode, getCode].getD i []) tv (countThs cs k) av) ∧ Hid (Below w.heap.size w wx)) (fun v _ => 9 - (intOf v).toNat)
    case atStart => exact ⟨0, _, _, Nat.zero_le _, rfl, HB, RB2, HWO, MM, BW⟩
    case round =>
      clear MM HB RB2 HWO BW
      obtain ⟨k, tv, av, hk9, rfl, HX, RX, WX, MX, BX⟩ := hrel
      by_cases h1 : k < 9
      · have i1 : (k : Int) < 9 := by omega
        obtain ⟨V, hV⟩ : ∃ V, cnum cs k = V := ⟨_, rfl⟩
        have HV := hid hV
        obtain ⟨j, hj⟩ : ∃ j, k % 3 = j := ⟨_, rfl⟩
        have hj3 : j < 3 := by omega
        have ij3 : (j : Int) < 3 := by omega
        have em : (k : Int).tmod 3 = (j : Int) := by rw [Int.tmod_eq_emod_of_nonneg (by omega)]; omega
        have em2 : (k : Int) % 3 = (j : Int) := by omega
        have iw : IntKind.i64.wrap (j : Int) = (j : Int) := IntWalk.i64_in _ (by omega)
        have HJ := hid hj
        have hcase : (k < r ∧ ∃ ad x, D = some ad ∧ wr.cell? (ad.add k) = some (.int .i64 x) ∧ pk x 6 = V ∧ -9223372036854775808 ≤ x ∧ x ≤ 9223372036854775807) ∨ (¬ k < r ∧ V = 0) := by
          by_cases h2 : k < r
          · obtain ⟨ad, x, e, hx, cx⟩ := HDD.out.ati h2
            have := HDS.out x (List.mem_of_getElem? hx)
            refine .inl ⟨h2, ad, x, e, cell_below BX.out cx, ?_, this.1, this.2⟩
            rw [← HV.out]; unfold cnum; rw [hx]
          · refine .inr ⟨h2, ?_⟩
            rw [← HV.out]; unfold cnum
            rw [List.getElem?_eq_none (by rw [HRL.out]; omega)]
        obtain ⟨bc, hbc⟩ : ∃ bc, wr.heap.size = bc := ⟨_, rfl⟩
        have HBC := hid hbc
        have hbw : w.heap.size ≤ bc := by rw [← hbc]; exact BX.out.size
        clear hV hj hbc
        -- what both ways come to, ahead of the append
        have goal11 : ∀ (w5 : World) (cc : Nat) (as_ : List Int) (sv : SV), Below wr.heap.size wr w5 → Blk w5 bc 46 #[.int .i64 (cc : Int), sv.v] → w5.ownsRow w.heap.size 3 1 sv.v as_.length (as_.flatMap gI) → ccall V = ⟨cc, as_⟩ → True := fun _ _ _ _ _ _ _ _ => trivial
        clear goal11
        rcases hcase with ⟨h2, ad, x, rfl, cx, hpx, hx0, hx1⟩ | ⟨h2, rfl⟩
        · have i2 : (k : Int) < (r : Int) := by omega
          have HPX := hid hpx
          clear hpx
          by_cases hv0 : V = 0
          · subst hv0
            go_upto_region 11 with (go_at_call 22; refine (picked _ _ _ (by omega) (by omega) (by omega) (by omega)).mono ?_; rintro e w' ⟨rfl, rfl⟩; rw [HPX.out])
            have HCC := hid (show ccall 0 = ⟨1, []⟩ from rfl)
            have B5 := hid (bnew (bnil wr) (.cells #[.int .i64 1, .slice none 0 0] 46))
            have XC := hid (blkN wr 46 #[.int .i64 1, .slice none 0 0] bc HBC.out)
            have OA := hid (show (wr.alloc (.cells #[.int .i64 1, .slice none 0 0] 46)).ownsRow w.heap.size 3 1 (.slice none 0 0) 0 [] from own0 _ _ _ 1)
            have hbc := HBC.out
            rw [hbc]
            clear hbc
            generalize World.alloc wr (.cells #[.int .i64 1, .slice none 0 0] 46) = w5 at *
            have HX5 := hid (HX.out.below' B5.out); have RX5 := hid (RX.out.below' B5.out); have WX5 := hid (own_below WX.out B5.out); have MX5 := hid (MX.out.below B5.out); have BX5 := hid (bgo BX.out B5.out)
            have c2 : w5.cell? ⟨X, 2, none⟩ = some (.slice (some ⟨T, 0, none⟩) 3 3) := HX5.out.cell 2
            have c3 : w5.cell? ⟨T, j, none⟩ = some (tv j) := by rw [MX5.out.tb.cell j]; exact arrN_at tv hj3
            have f3 : w5.frozen? ⟨T, j, none⟩ = false := MX5.out.tb.frozen j
            have c5 : w5.cell? ⟨bc, 0, none⟩ = some (.int .i64 1) := XC.out.cell 0
            have c6 : w5.cell? ⟨bc, 1, none⟩ = some (.slice none 0 0) := XC.out.cell 1
            have hrow := MX5.out.rows j hj3
            obtain ⟨L, hL⟩ : ∃ L, (countThs cs k j).length = L := ⟨_, rfl⟩
            have hL9 : L ≤ 9 := by have := countThs_len cs k j; omega
            obtain ⟨Aj, cj, hAj, hcj1, hcj2⟩ := own_form hrow.2.1
            rw [hL] at hAj hcj1
            rw [hAj] at c3
            have HAJ := hid hAj
            have HROW := hid hrow
            have HLL := hid hL
            clear hAj hrow hL
            have ltT := World.block_lt_of_cell? w5 _ c3
            have ltX := World.block_lt_of_cell? w5 _ c2
            have ltC := World.block_lt_of_cell? w5 _ c5
            have hTbc : T ≠ bc := by have h1 := MX.out.tb.lt; have h2 := HBC.out; omega
            have hXbc : X ≠ bc := by have h1 := HX.out.lt; have h2 := HBC.out; omega
            obtain ⟨y, hy⟩ : ∃ y, (countThs cs k j).zip (av j) ++ [((⟨1, []⟩ : VCall), (⟨none, 0, 0⟩ : SV))] = y := ⟨_, rfl⟩
            have HYE := hid hy
            have HYL := hid (show y.length = L + 1 by rw [← hy, List.length_append, List.length_zip, HROW.out.1, HLL.out]; simp)
            clear hy
            have HBS := hid BX5.out.size
            have HOW := hid (show ∀ w', Below w5.heap.size w5 w' → w'.ownsRow w.heap.size 46 2 (.slice Aj L cj) ((countThs cs k j).zip (av j)).length (((countThs cs k j).zip (av j)).flatMap gS) from fun w' hb => by
              have h1 := own_below HROW.out.2.1 hb
              rw [HAJ.out] at h1
              rw [List.length_zip, HROW.out.1, Nat.min_self]
              exact h1)
            have HAB := hid (show ∀ b, (Value.slice Aj L cj).ownBlock = some b → b ≠ bc from fun b hb => by
              have h1 := own_ge (MX.out.rows j hj3).2.1 b (by rw [HAJ.out]; exact hb)
              have h2 := HBC.out
              omega)
            have HGW := hid (show ∀ wA w6, Below w5.heap.size w5 wA → wA.grownBy w6 (Value.slice Aj L cj).ownBlock → (w6.cell? ⟨X, 2, none⟩ = some (.slice (some ⟨T, 0, none⟩) 3 3) ∧ w6.frozen? ⟨T, j, none⟩ = false ∧ w6.cell? ⟨bc, 0, none⟩ = some (.int .i64 1) ∧ w6.cell? ⟨bc, 1, none⟩ = some (.slice none 0 0)) ∧ w6.cell? ⟨T, j, none⟩ = some (.slice Aj L cj) ∧
              ∀ v, ((w6.setCell ⟨T, j, none⟩ v).cell? ⟨X, 2, none⟩ = some (.slice (some ⟨T, 0, none⟩) 3 3) ∧ (w6.setCell ⟨T, j, none⟩ v).frozen? ⟨T, j, none⟩ = false ∧ (w6.setCell ⟨T, j, none⟩ v).cell? ⟨bc, 0, none⟩ = some (.int .i64 1) ∧ (w6.setCell ⟨T, j, none⟩ v).cell? ⟨bc, 1, none⟩ = some (.slice none 0 0)) from fun wA w6 hb hG => by
              have gC : Blk w6 bc 46 #[.int .i64 1, .slice none 0 0] := (Chg.of_grown hG (M := fun k => (Value.slice Aj L cj).ownBlock = some k) (fun k e => e)).blk (XC.out.below' hb) (fun e => HAB.out bc e rfl)
              rw [← HAJ.out] at hG
              obtain ⟨g1, g2⟩ := MX5.out.grown hj3 hb hG
              have gX := g2 (by decide) HX5.out
              have gC2 := fun v => gC.far (p := ⟨T, j, none⟩) (fun e => hTbc e.symm) v
              exact ⟨⟨gX.cell 2, g1.frozen j, gC.cell 0, gC.cell 1⟩, by rw [g1.cell j, arrN_at tv hj3, HAJ.out], fun v => ⟨(gX.far (p := ⟨T, j, none⟩) (gX.ne_ g1 (by decide)) v).cell 2, (g1.set_ j v).frozen j, (gC2 v).cell 0, (gC2 v).cell 1⟩⟩)
            have HFR := hid (show ∀ (k' : Nat) (c : VCall) (a : SV), ([⟨1, []⟩] : List VCall)[k']? = some c → ([⟨none, 0, 0⟩] : List SV)[k']? = some a → ((w5.alloc (.cells #[.int .i64 1, .slice none 0 0] 46))).drew.ownsRow w.heap.size 3 1 a.v c.args.length (c.args.flatMap gI) from fun k' c a hc ha => by
              rw [List.getElem?_singleton] at hc ha
              split at hc
              · rename_i h; rw [if_pos h] at ha
                injection hc with hc; injection ha with ha
                subst hc ha
                exact own_below OA.out (bnew (bnil _) _).drew
              · cases hc)
            refine wp_region_held_drew (S := (fun w' => w'.cell? ⟨X, 2, none⟩ = some (.slice (some ⟨T, 0, none⟩) 3 3) ∧ w'.frozen? ⟨T, j, none⟩ = false ∧ w'.cell? ⟨bc, 0, none⟩ = some (.int .i64 1) ∧ w'.cell? ⟨bc, 1, none⟩ = some (.slice none 0 0))) (by kernel_rfl) ?_ (fun hHeld => ?_)
            · (try dsimp only); (first | assumption | exact ⟨c2, f3, c5, c6⟩ | exact HZ.1 | exact HZ.2.2 _ | (refine sees4f ?_ c2 c3 f3 c5 c6; (repeat (first | exact bnil _ | refine Below.drew ?_ | refine bnew ?_ _))))
            refine wpAnyH_take (i := 0) (oi := ⟨some 32, _, _, _, _, _⟩) (v := ?_) rfl (by kernel_rfl) (by kernel_rfl) (by kernel_rfl) (fun _ _ _ h => h) (Or.inl ⟨by rfl, ?_⟩) (by assumption) ?_
            rotate_left
            · intro w hSw; (try dsimp only at hSw); go_simp <;> with_reducible rfl
            try simp only [Act.put, List.setIfInBounds_toArray, List.set_cons_zero, List.set_cons_succ]
            refine wpAnyH_take (i := 1) (oi := ⟨some 33, _, _, _, _, _⟩) (v := ?_) rfl (by kernel_rfl) (by kernel_rfl) (by kernel_rfl) (fun _ _ _ h => h) (Or.inl ⟨by rfl, ?_⟩) (by assumption) ?_
            rotate_left
            · intro w hSw; (try dsimp only at hSw); go_simp <;> with_reducible rfl
            try simp only [Act.put, List.setIfInBounds_toArray, List.set_cons_zero, List.set_cons_succ]
            refine wpAnyH_take (i := 2) (oi := ⟨some 34, _, _, _, _, _⟩) (v := ?_) rfl (by kernel_rfl) (by kernel_rfl) (by kernel_rfl) (fun _ _ _ h => h) (Or.inl ⟨by rfl, ?_⟩) (by assumption) ?_
            rotate_left
            · intro w hSw; (try dsimp only at hSw); go_simp <;> with_reducible rfl
            try simp only [Act.put, List.setIfInBounds_toArray, List.set_cons_zero, List.set_cons_succ]
            refine wpAnyH_take (i := 3) (oi := ⟨some 35, _, _, _, _, _⟩) (v := ?_) rfl (by kernel_rfl) (by kernel_rfl) (by kernel_rfl) (fun _ _ _ h => h) (Or.inl ⟨by rfl, ?_⟩) (by assumption) ?_
            rotate_left
            · intro w hSw; (try dsimp only at hSw); go_simp <;> with_reducible rfl
            try simp only [Act.put, List.setIfInBounds_toArray, List.set_cons_zero, List.set_cons_succ]
            refine wpAnyH_take (i := 4) (oi := ⟨some 36, _, _, _, _, _⟩) (v := ?_) rfl (by kernel_rfl) (by kernel_rfl) (by kernel_rfl) (fun _ _ _ h => h) (Or.inl ⟨by rfl, ?_⟩) (by assumption) ?_
            rotate_left
            · intro w hSw; (try dsimp only at hSw); go_simp <;> with_reducible rfl
            try simp only [Act.put, List.setIfInBounds_toArray, List.set_cons_zero, List.set_cons_succ]
            refine wpAnyH_take (i := 5) (oi := ⟨some 37, _, _, _, _, _⟩) (v := ?_) rfl (by kernel_rfl) (by kernel_rfl) (by kernel_rfl) (fun _ _ _ h => h) (Or.inl ⟨by rfl, ?_⟩) (by assumption) ?_
            rotate_left
            · intro w hSw; (try dsimp only at hSw); go_simp <;> with_reducible rfl
            try simp only [Act.put, List.setIfInBounds_toArray, List.set_cons_zero, List.set_cons_succ]
            refine wpAnyH_take (i := 6) (oi := ⟨some 38, _, _, _, _, _⟩) (v := ?_) rfl (by kernel_rfl) (by kernel_rfl) (by kernel_rfl) (fun _ _ _ h => h) (Or.inl ⟨by rfl, ?_⟩) (by assumption) ?_
            rotate_left
            · intro w hSw; (try dsimp only at hSw); go_simp <;> with_reducible rfl
            try simp only [Act.put, List.setIfInBounds_toArray, List.set_cons_zero, List.set_cons_succ]
            refine wpAnyH_take (i := 7) (oi := ⟨some 39, _, _, _, _, _⟩) (v := ?_) rfl (by kernel_rfl) (by kernel_rfl) (by kernel_rfl) (fun _ _ _ h => h) (Or.inl ⟨by rfl, ?_⟩) (by assumption) ?_
            rotate_left
            · intro w hSw; (try dsimp only at hSw); go_simp <;> with_reducible rfl
            try simp only [Act.put, List.setIfInBounds_toArray, List.set_cons_zero, List.set_cons_succ]
            refine wpAnyH_take (i := 8) (oi := ⟨some 40, _, _, _, _, _⟩) (v := ?_) rfl (by kernel_rfl) (by kernel_rfl) (by kernel_rfl) (fun _ _ _ h => h) (Or.inl ⟨by rfl, ?_⟩) (by assumption) ?_
            rotate_left
            · intro w hSw; (try dsimp only at hSw); go_simp <;> with_reducible rfl
            try simp only [Act.put, List.setIfInBounds_toArray, List.set_cons_zero, List.set_cons_succ]
            refine wpAnyH_take (i := 10) (oi := ⟨some 42, _, _, _, _, _⟩) (v := ?_) rfl (by kernel_rfl) (by kernel_rfl) (by kernel_rfl) (fun _ _ _ h => h) (Or.inl ⟨by rfl, ?_⟩) (by assumption) ?_
            rotate_left
            · intro w hSw; (try dsimp only at hSw); go_simp <;> with_reducible rfl
            try simp only [Act.put, List.setIfInBounds_toArray, List.set_cons_zero, List.set_cons_succ]
            refine wpAnyH_ready (rs := [9, 11]) (by kernel_rfl) (by simp) ?_
            refine AllReadyH.cons (o := ⟨some 41, _, _, _, _, _⟩) rfl (fun K hK => ?_) ?_
            go_simp
            refine hK.out _ _ ?_ (fun hHeld => ?_)
            · (try dsimp only); (first | assumption | exact ⟨c2, f3, c5, c6⟩ | exact HZ.1 | exact HZ.2.2 _ | (refine sees4f ?_ c2 c3 f3 c5 c6; (repeat (first | exact bnil _ | refine Below.drew ?_ | refine bnew ?_ _))))
            clear hK K
            try simp only [Act.put, List.setIfInBounds_toArray, List.set_cons_zero, List.set_cons_succ]
            refine wpAnyH_ready (rs := [11]) (by kernel_rfl) (by simp) ?_
            refine AllReadyH.cons (o := ⟨some 43, _, _, _, _, _⟩) rfl (fun K hK => ?_) AllReadyH.nil
            go_simp
            refine hK.out _ _ ?_ (fun hHeld => ?_)
            · (try dsimp only); (first | assumption | exact ⟨c2, f3, c5, c6⟩ | exact HZ.1 | exact HZ.2.2 _ | (refine sees4f ?_ c2 c3 f3 c5 c6; (repeat (first | exact bnil _ | refine Below.drew ?_ | refine bnew ?_ _))))
            clear hK K
            try simp only [Act.put, List.setIfInBounds_toArray, List.set_cons_zero, List.set_cons_succ]
            refine wpAnyH_ready (rs := [12]) (by kernel_rfl) (by simp) ?_
            refine AllReadyH.cons (o := ⟨some 44, _, _, _, _, _⟩) rfl (fun K hK => ?_) AllReadyH.nil
            (refine step_appC elmCN gS_one rfl (.tmp 41) (.tmp 43) rfl (.slice Aj L cj) ((countThs cs k j).zip (av j)) rfl (HOW.out _ (bnew (bnil _) _).drew) [((⟨1, []⟩ : VCall), (⟨none, 0, 0⟩ : SV))] y HYE rfl (Sl.drew (Sl.fresh' _ #[_, _] 46 2 1 _ (by simp) rfl)) rfl (by rw [HYL.out]; simp only [maxLen]; omega) (by rw [HYL.out]; omega) (Nat.le_trans HBS.out (bnew (bnil _) _).drew.size) ?_; intro E6 c6' w6 hc6 hc7 HN6 HG6 HO6; have HZ := HGW.out _ w6 (bnew (bnil _) _).drew HG6.out)
            refine hK.out _ _ ?_ (fun hHeld => ?_)
            · (try dsimp only); (first | assumption | exact ⟨c2, f3, c5, c6⟩ | exact HZ.1 | exact HZ.2.2 _ | (refine sees4f ?_ c2 c3 f3 c5 c6; (repeat (first | exact bnil _ | refine Below.drew ?_ | refine bnew ?_ _))))
            clear hK K
            try simp only [Act.put, List.setIfInBounds_toArray, List.set_cons_zero, List.set_cons_succ]
            refine wpAnyH_take (i := 13) (oi := ⟨some 45, _, _, _, _, _⟩) (v := ?_) rfl (by kernel_rfl) (by kernel_rfl) (by kernel_rfl) (fun _ _ _ h => h) (Or.inl ⟨by rfl, ?_⟩) (by assumption) ?_
            rotate_left
            · intro w hSw; (try dsimp only at hSw); go_simp <;> with_reducible rfl
            try simp only [Act.put, List.setIfInBounds_toArray, List.set_cons_zero, List.set_cons_succ]
            refine wpAnyH_ready (rs := [14]) (by kernel_rfl) (by simp) ?_
            refine AllReadyH.cons (o := ⟨none, _, _, _, _, _⟩) rfl (fun K hK => ?_) AllReadyH.nil
            go_simp
            refine hK.out _ _ ?_ (fun hHeld => ?_)
            · (try dsimp only); (first | assumption | exact ⟨c2, f3, c5, c6⟩ | exact HZ.1 | exact HZ.2.2 _ | (refine sees4f ?_ c2 c3 f3 c5 c6; (repeat (first | exact bnil _ | refine Below.drew ?_ | refine bnew ?_ _))))
            clear hK K
            try dsimp only [Act.put]
            refine wpAnyH_done (by kernel_rfl) ?_ _
            rotate_left
            refine AllReadyH.cons (o := ⟨some 43, _, _, _, _, _⟩) rfl (fun K hK => ?_) AllReadyH.nil
            go_simp
            refine hK.out _ _ ?_ (fun hHeld => ?_)
            · (try dsimp only); (first | assumption | exact ⟨c2, f3, c5, c6⟩ | exact HZ.1 | exact HZ.2.2 _ | (refine sees4f ?_ c2 c3 f3 c5 c6; (repeat (first | exact bnil _ | refine Below.drew ?_ | refine bnew ?_ _))))
            clear hK K
            try simp only [Act.put, List.setIfInBounds_toArray, List.set_cons_zero, List.set_cons_succ]
            refine wpAnyH_ready (rs := [9]) (by kernel_rfl) (by simp) ?_
            refine AllReadyH.cons (o := ⟨some 41, _, _, _, _, _⟩) rfl (fun K hK => ?_) AllReadyH.nil
            go_simp
            refine hK.out _ _ ?_ (fun hHeld => ?_)
            · (try dsimp only); (first | assumption | exact ⟨c2, f3, c5, c6⟩ | exact HZ.1 | exact HZ.2.2 _ | (refine sees4f ?_ c2 c3 f3 c5 c6; (repeat (first | exact bnil _ | refine Below.drew ?_ | refine bnew ?_ _))))
            clear hK K
            try simp only [Act.put, List.setIfInBounds_toArray, List.set_cons_zero, List.set_cons_succ]
            refine wpAnyH_ready (rs := [12]) (by kernel_rfl) (by simp) ?_
            refine AllReadyH.cons (o := ⟨some 44, _, _, _, _, _⟩) rfl (fun K hK => ?_) AllReadyH.nil
            (refine step_appC elmCN gS_one rfl (.tmp 41) (.tmp 43) rfl (.slice Aj L cj) ((countThs cs k j).zip (av j)) rfl (HOW.out _ (bnew (bnil _) _).drew) [((⟨1, []⟩ : VCall), (⟨none, 0, 0⟩ : SV))] y HYE rfl (Sl.drew (Sl.fresh' _ #[_, _] 46 2 1 _ (by simp) rfl)) rfl (by rw [HYL.out]; simp only [maxLen]; omega) (by rw [HYL.out]; omega) (Nat.le_trans HBS.out (bnew (bnil _) _).drew.size) ?_; intro E6 c6' w6 hc6 hc7 HN6 HG6 HO6; have HZ := HGW.out _ w6 (bnew (bnil _) _).drew HG6.out)
            refine hK.out _ _ ?_ (fun hHeld => ?_)
            · (try dsimp only); (first | assumption | exact ⟨c2, f3, c5, c6⟩ | exact HZ.1 | exact HZ.2.2 _ | (refine sees4f ?_ c2 c3 f3 c5 c6; (repeat (first | exact bnil _ | refine Below.drew ?_ | refine bnew ?_ _))))
            clear hK K
            try simp only [Act.put, List.setIfInBounds_toArray, List.set_cons_zero, List.set_cons_succ]
            refine wpAnyH_take (i := 13) (oi := ⟨some 45, _, _, _, _, _⟩) (v := ?_) rfl (by kernel_rfl) (by kernel_rfl) (by kernel_rfl) (fun _ _ _ h => h) (Or.inl ⟨by rfl, ?_⟩) (by assumption) ?_
            rotate_left
            · intro w hSw; (try dsimp only at hSw); go_simp <;> with_reducible rfl
            try simp only [Act.put, List.setIfInBounds_toArray, List.set_cons_zero, List.set_cons_succ]
            refine wpAnyH_ready (rs := [14]) (by kernel_rfl) (by simp) ?_
            refine AllReadyH.cons (o := ⟨none, _, _, _, _, _⟩) rfl (fun K hK => ?_) AllReadyH.nil
            go_simp
            refine hK.out _ _ ?_ (fun hHeld => ?_)
            · (try dsimp only); (first | assumption | exact ⟨c2, f3, c5, c6⟩ | exact HZ.1 | exact HZ.2.2 _ | (refine sees4f ?_ c2 c3 f3 c5 c6; (repeat (first | exact bnil _ | refine Below.drew ?_ | refine bnew ?_ _))))
            clear hK K
            try dsimp only [Act.put]
            refine wpAnyH_done (by kernel_rfl) ?_ _
            rotate_left
            all_goals
              obtain ⟨g1, g2⟩ := MX5.out.grown hj3 (bnew (bnil _) _).drew (by rw [HAJ.out]; exact HG6.out)
              have HX6 := hid ((g2 (by decide) HX5.out).far (p := ⟨T, j, none⟩) ((g2 (by decide) HX5.out).ne_ g1 (by decide)) (.slice E6 y.length c6'))
              have HR6 := hid ((g2 (by decide) RX5.out).far (p := ⟨T, j, none⟩) ((g2 (by decide) RX5.out).ne_ g1 (by decide)) (.slice E6 y.length c6'))
              have HB6 := hid (MX5.out.chg hj3 (bnew (bnil _) _).drew (by rw [HAJ.out]; exact HG6.out) BX5.out rfl (.slice E6 y.length c6')).2
              have HW6 := hid (MX5.out.other hj3 (bnew (bnil _) _).drew (by rw [HAJ.out]; exact HG6.out) WX5.out (by decide) (by decide) (.slice E6 y.length c6'))
              have HM6 := hid (MX5.out.snoc hj3 [⟨1, []⟩] [⟨none, 0, 0⟩] (bnew (bnil _) _).drew rfl HFR.out HYE.out (by rw [HAJ.out]; exact HG6.out) (by rw [HAJ.out]; exact HO6.out) HN6.out)
              clear g1 g2 HZ HG6 HO6 HN6
              go_wp2
              go_roundw
              case rel => exact ⟨k + 1, _, _, by omega, by go_num, HX6, HR6, HW6, hid (by have h1 := HM6.out; rw [← HCC.out, ← HV.out, countThs_upd cs HJ.out] at h1; exact h1), HB6⟩
              case measure => simp [intOf]; omega
          · have hv1 : (0 : Int) < (V : Int) := by omega
            go_upto_region 11 with (go_at_call 22; refine (picked _ _ _ (by omega) (by omega) (by omega) (by omega)).mono ?_; rintro e w' ⟨rfl, rfl⟩; rw [HPX.out])
            have HCC := hid (show ccall V = ⟨0, [(V : Int)]⟩ by unfold ccall; rw [if_neg hv0])
            have B5 := hid (bnew (bnew (bnil wr) (.cells #[.int .i64 0, .slice (some ⟨bc + 1, 0, none⟩) 1 1] 46)) (.cells #[.int .i64 (V : Int)] 3))
            have XC := hid ((blkN wr 46 #[.int .i64 0, .slice (some ⟨bc + 1, 0, none⟩) 1 1] bc HBC.out).alloc (.cells #[.int .i64 (V : Int)] 3))
            have OA := hid (show ((wr.alloc (.cells #[.int .i64 0, .slice (some ⟨bc + 1, 0, none⟩) 1 1] 46)).alloc (.cells #[.int .i64 (V : Int)] 3)).ownsRow w.heap.size 3 1 (.slice (some ⟨bc + 1, 0, none⟩) 1 1) 1 ([(V : Int)].flatMap gI) from own_fresh (wr.alloc (.cells #[.int .i64 0, .slice (some ⟨bc + 1, 0, none⟩) 1 1] 46)) _ 3 1 1 _ _ (by simp [HBC.out]) (by omega) rfl (by simp [maxLen]))
            have hbc := HBC.out
            rw [hbc]
            clear hbc
            generalize World.alloc (World.alloc wr (.cells #[.int .i64 0, .slice (some ⟨bc + 1, 0, none⟩) 1 1] 46)) (.cells #[.int .i64 (V : Int)] 3) = w5 at *
            have HX5 := hid (HX.out.below' B5.out); have RX5 := hid (RX.out.below' B5.out); have WX5 := hid (own_below WX.out B5.out); have MX5 := hid (MX.out.below B5.out); have BX5 := hid (bgo BX.out B5.out)
            have c2 : w5.cell? ⟨X, 2, none⟩ = some (.slice (some ⟨T, 0, none⟩) 3 3) := HX5.out.cell 2
            have c3 : w5.cell? ⟨T, j, none⟩ = some (tv j) := by rw [MX5.out.tb.cell j]; exact arrN_at tv hj3
            have f3 : w5.frozen? ⟨T, j, none⟩ = false := MX5.out.tb.frozen j
            have c5 : w5.cell? ⟨bc, 0, none⟩ = some (.int .i64 0) := XC.out.cell 0
            have c6 : w5.cell? ⟨bc, 1, none⟩ = some (.slice (some ⟨bc + 1, 0, none⟩) 1 1) := XC.out.cell 1
            have hrow := MX5.out.rows j hj3
            obtain ⟨L, hL⟩ : ∃ L, (countThs cs k j).length = L := ⟨_, rfl⟩
            have hL9 : L ≤ 9 := by have := countThs_len cs k j; omega
            obtain ⟨Aj, cj, hAj, hcj1, hcj2⟩ := own_form hrow.2.1
            rw [hL] at hAj hcj1
            rw [hAj] at c3
            have HAJ := hid hAj
            have HROW := hid hrow
            have HLL := hid hL
            clear hAj hrow hL
            have ltT := World.block_lt_of_cell? w5 _ c3
            have ltX := World.block_lt_of_cell? w5 _ c2
            have ltC := World.block_lt_of_cell? w5 _ c5
            have hTbc : T ≠ bc := by have h1 := MX.out.tb.lt; have h2 := HBC.out; omega
            have hXbc : X ≠ bc := by have h1 := HX.out.lt; have h2 := HBC.out; omega
            obtain ⟨y, hy⟩ : ∃ y, (countThs cs k j).zip (av j) ++ [((⟨0, [(V : Int)]⟩ : VCall), (⟨(some ⟨bc + 1, 0, none⟩), 1, 1⟩ : SV))] = y := ⟨_, rfl⟩
            have HYE := hid hy
            have HYL := hid (show y.length = L + 1 by rw [← hy, List.length_append, List.length_zip, HROW.out.1, HLL.out]; simp)
            clear hy
            have HBS := hid BX5.out.size
            have HOW := hid (show ∀ w', Below w5.heap.size w5 w' → w'.ownsRow w.heap.size 46 2 (.slice Aj L cj) ((countThs cs k j).zip (av j)).length (((countThs cs k j).zip (av j)).flatMap gS) from fun w' hb => by
              have h1 := own_below HROW.out.2.1 hb
              rw [HAJ.out] at h1
              rw [List.length_zip, HROW.out.1, Nat.min_self]
              exact h1)
            have HAB := hid (show ∀ b, (Value.slice Aj L cj).ownBlock = some b → b ≠ bc from fun b hb => by
              have h1 := own_ge (MX.out.rows j hj3).2.1 b (by rw [HAJ.out]; exact hb)
              have h2 := HBC.out
              omega)
            have HGW := hid (show ∀ wA w6, Below w5.heap.size w5 wA → wA.grownBy w6 (Value.slice Aj L cj).ownBlock → (w6.cell? ⟨X, 2, none⟩ = some (.slice (some ⟨T, 0, none⟩) 3 3) ∧ w6.frozen? ⟨T, j, none⟩ = false ∧ w6.cell? ⟨bc, 0, none⟩ = some (.int .i64 0) ∧ w6.cell? ⟨bc, 1, none⟩ = some (.slice (some ⟨bc + 1, 0, none⟩) 1 1)) ∧ w6.cell? ⟨T, j, none⟩ = some (.slice Aj L cj) ∧
              ∀ v, ((w6.setCell ⟨T, j, none⟩ v).cell? ⟨X, 2, none⟩ = some (.slice (some ⟨T, 0, none⟩) 3 3) ∧ (w6.setCell ⟨T, j, none⟩ v).frozen? ⟨T, j, none⟩ = false ∧ (w6.setCell ⟨T, j, none⟩ v).cell? ⟨bc, 0, none⟩ = some (.int .i64 0) ∧ (w6.setCell ⟨T, j, none⟩ v).cell? ⟨bc, 1, none⟩ = some (.slice (some ⟨bc + 1, 0, none⟩) 1 1)) from fun wA w6 hb hG => by
              have gC : Blk w6 bc 46 #[.int .i64 0, .slice (some ⟨bc + 1, 0, none⟩) 1 1] := (Chg.of_grown hG (M := fun k => (Value.slice Aj L cj).ownBlock = some k) (fun k e => e)).blk (XC.out.below' hb) (fun e => HAB.out bc e rfl)
              rw [← HAJ.out] at hG
              obtain ⟨g1, g2⟩ := MX5.out.grown hj3 hb hG
              have gX := g2 (by decide) HX5.out
              have gC2 := fun v => gC.far (p := ⟨T, j, none⟩) (fun e => hTbc e.symm) v
              exact ⟨⟨gX.cell 2, g1.frozen j, gC.cell 0, gC.cell 1⟩, by rw [g1.cell j, arrN_at tv hj3, HAJ.out], fun v => ⟨(gX.far (p := ⟨T, j, none⟩) (gX.ne_ g1 (by decide)) v).cell 2, (g1.set_ j v).frozen j, (gC2 v).cell 0, (gC2 v).cell 1⟩⟩)
            have HFR := hid (show ∀ (k' : Nat) (c : VCall) (a : SV), ([⟨0, [(V : Int)]⟩] : List VCall)[k']? = some c → ([⟨(some ⟨bc + 1, 0, none⟩), 1, 1⟩] : List SV)[k']? = some a → ((w5.alloc (.cells #[.int .i64 0, .slice (some ⟨bc + 1, 0, none⟩) 1 1] 46))).drew.ownsRow w.heap.size 3 1 a.v c.args.length (c.args.flatMap gI) from fun k' c a hc ha => by
              rw [List.getElem?_singleton] at hc ha
              split at hc
              · rename_i h; rw [if_pos h] at ha
                injection hc with hc; injection ha with ha
                subst hc ha
                exact own_below OA.out (bnew (bnil _) _).drew
              · cases hc)
            refine wp_region_held_drew (S := (fun w' => w'.cell? ⟨X, 2, none⟩ = some (.slice (some ⟨T, 0, none⟩) 3 3) ∧ w'.frozen? ⟨T, j, none⟩ = false ∧ w'.cell? ⟨bc, 0, none⟩ = some (.int .i64 0) ∧ w'.cell? ⟨bc, 1, none⟩ = some (.slice (some ⟨bc + 1, 0, none⟩) 1 1))) (by kernel_rfl) ?_ (fun hHeld => ?_)
            · (try dsimp only); (first | assumption | exact ⟨c2, f3, c5, c6⟩ | exact HZ.1 | exact HZ.2.2 _ | (refine sees4f ?_ c2 c3 f3 c5 c6; (repeat (first | exact bnil _ | refine Below.drew ?_ | refine bnew ?_ _))))
            refine wpAnyH_take (i := 0) (oi := ⟨some 32, _, _, _, _, _⟩) (v := ?_) rfl (by kernel_rfl) (by kernel_rfl) (by kernel_rfl) (fun _ _ _ h => h) (Or.inl ⟨by rfl, ?_⟩) (by assumption) ?_
            rotate_left
            · intro w hSw; (try dsimp only at hSw); go_simp <;> with_reducible rfl
            try simp only [Act.put, List.setIfInBounds_toArray, List.set_cons_zero, List.set_cons_succ]
            refine wpAnyH_take (i := 1) (oi := ⟨some 33, _, _, _, _, _⟩) (v := ?_) rfl (by kernel_rfl) (by kernel_rfl) (by kernel_rfl) (fun _ _ _ h => h) (Or.inl ⟨by rfl, ?_⟩) (by assumption) ?_
            rotate_left
            · intro w hSw; (try dsimp only at hSw); go_simp <;> with_reducible rfl
            try simp only [Act.put, List.setIfInBounds_toArray, List.set_cons_zero, List.set_cons_succ]
            refine wpAnyH_take (i := 2) (oi := ⟨some 34, _, _, _, _, _⟩) (v := ?_) rfl (by kernel_rfl) (by kernel_rfl) (by kernel_rfl) (fun _ _ _ h => h) (Or.inl ⟨by rfl, ?_⟩) (by assumption) ?_
            rotate_left
            · intro w hSw; (try dsimp only at hSw); go_simp <;> with_reducible rfl
            try simp only [Act.put, List.setIfInBounds_toArray, List.set_cons_zero, List.set_cons_succ]
            refine wpAnyH_take (i := 3) (oi := ⟨some 35, _, _, _, _, _⟩) (v := ?_) rfl (by kernel_rfl) (by kernel_rfl) (by kernel_rfl) (fun _ _ _ h => h) (Or.inl ⟨by rfl, ?_⟩) (by assumption) ?_
            rotate_left
            · intro w hSw; (try dsimp only at hSw); go_simp <;> with_reducible rfl
            try simp only [Act.put, List.setIfInBounds_toArray, List.set_cons_zero, List.set_cons_succ]
            refine wpAnyH_take (i := 4) (oi := ⟨some 36, _, _, _, _, _⟩) (v := ?_) rfl (by kernel_rfl) (by kernel_rfl) (by kernel_rfl) (fun _ _ _ h => h) (Or.inl ⟨by rfl, ?_⟩) (by assumption) ?_
            rotate_left
            · intro w hSw; (try dsimp only at hSw); go_simp <;> with_reducible rfl
            try simp only [Act.put, List.setIfInBounds_toArray, List.set_cons_zero, List.set_cons_succ]
            refine wpAnyH_take (i := 5) (oi := ⟨some 37, _, _, _, _, _⟩) (v := ?_) rfl (by kernel_rfl) (by kernel_rfl) (by kernel_rfl) (fun _ _ _ h => h) (Or.inl ⟨by rfl, ?_⟩) (by assumption) ?_
            rotate_left
            · intro w hSw; (try dsimp only at hSw); go_simp <;> with_reducible rfl
            try simp only [Act.put, List.setIfInBounds_toArray, List.set_cons_zero, List.set_cons_succ]
            refine wpAnyH_take (i := 6) (oi := ⟨some 38, _, _, _, _, _⟩) (v := ?_) rfl (by kernel_rfl) (by kernel_rfl) (by kernel_rfl) (fun _ _ _ h => h) (Or.inl ⟨by rfl, ?_⟩) (by assumption) ?_
            rotate_left
            · intro w hSw; (try dsimp only at hSw); go_simp <;> with_reducible rfl
            try simp only [Act.put, List.setIfInBounds_toArray, List.set_cons_zero, List.set_cons_succ]
            refine wpAnyH_take (i := 7) (oi := ⟨some 39, _, _, _, _, _⟩) (v := ?_) rfl (by kernel_rfl) (by kernel_rfl) (by kernel_rfl) (fun _ _ _ h => h) (Or.inl ⟨by rfl, ?_⟩) (by assumption) ?_
            rotate_left
            · intro w hSw; (try dsimp only at hSw); go_simp <;> with_reducible rfl
            try simp only [Act.put, List.setIfInBounds_toArray, List.set_cons_zero, List.set_cons_succ]
            refine wpAnyH_take (i := 8) (oi := ⟨some 40, _, _, _, _, _⟩) (v := ?_) rfl (by kernel_rfl) (by kernel_rfl) (by kernel_rfl) (fun _ _ _ h => h) (Or.inl ⟨by rfl, ?_⟩) (by assumption) ?_
            rotate_left
            · intro w hSw; (try dsimp only at hSw); go_simp <;> with_reducible rfl
            try simp only [Act.put, List.setIfInBounds_toArray, List.set_cons_zero, List.set_cons_succ]
            refine wpAnyH_take (i := 10) (oi := ⟨some 42, _, _, _, _, _⟩) (v := ?_) rfl (by kernel_rfl) (by kernel_rfl) (by kernel_rfl) (fun _ _ _ h => h) (Or.inl ⟨by rfl, ?_⟩) (by assumption) ?_
            rotate_left
            · intro w hSw; (try dsimp only at hSw); go_simp <;> with_reducible rfl
            try simp only [Act.put, List.setIfInBounds_toArray, List.set_cons_zero, List.set_cons_succ]
            refine wpAnyH_ready (rs := [9, 11]) (by kernel_rfl) (by simp) ?_
            refine AllReadyH.cons (o := ⟨some 41, _, _, _, _, _⟩) rfl (fun K hK => ?_) ?_
            go_simp
            refine hK.out _ _ ?_ (fun hHeld => ?_)
            · (try dsimp only); (first | assumption | exact ⟨c2, f3, c5, c6⟩ | exact HZ.1 | exact HZ.2.2 _ | (refine sees4f ?_ c2 c3 f3 c5 c6; (repeat (first | exact bnil _ | refine Below.drew ?_ | refine bnew ?_ _))))
            clear hK K
            try simp only [Act.put, List.setIfInBounds_toArray, List.set_cons_zero, List.set_cons_succ]
            refine wpAnyH_ready (rs := [11]) (by kernel_rfl) (by simp) ?_
            refine AllReadyH.cons (o := ⟨some 43, _, _, _, _, _⟩) rfl (fun K hK => ?_) AllReadyH.nil
            go_simp
            refine hK.out _ _ ?_ (fun hHeld => ?_)
            · (try dsimp only); (first | assumption | exact ⟨c2, f3, c5, c6⟩ | exact HZ.1 | exact HZ.2.2 _ | (refine sees4f ?_ c2 c3 f3 c5 c6; (repeat (first | exact bnil _ | refine Below.drew ?_ | refine bnew ?_ _))))
            clear hK K
            try simp only [Act.put, List.setIfInBounds_toArray, List.set_cons_zero, List.set_cons_succ]
            refine wpAnyH_ready (rs := [12]) (by kernel_rfl) (by simp) ?_
            refine AllReadyH.cons (o := ⟨some 44, _, _, _, _, _⟩) rfl (fun K hK => ?_) AllReadyH.nil
            (refine step_appC elmCN gS_one rfl (.tmp 41) (.tmp 43) rfl (.slice Aj L cj) ((countThs cs k j).zip (av j)) rfl (HOW.out _ (bnew (bnil _) _).drew) [((⟨0, [(V : Int)]⟩ : VCall), (⟨(some ⟨bc + 1, 0, none⟩), 1, 1⟩ : SV))] y HYE rfl (Sl.drew (Sl.fresh' _ #[_, _] 46 2 1 _ (by simp) rfl)) rfl (by rw [HYL.out]; simp only [maxLen]; omega) (by rw [HYL.out]; omega) (Nat.le_trans HBS.out (bnew (bnil _) _).drew.size) ?_; intro E6 c6' w6 hc6 hc7 HN6 HG6 HO6; have HZ := HGW.out _ w6 (bnew (bnil _) _).drew HG6.out)
            refine hK.out _ _ ?_ (fun hHeld => ?_)
            · (try dsimp only); (first | assumption | exact ⟨c2, f3, c5, c6⟩ | exact HZ.1 | exact HZ.2.2 _ | (refine sees4f ?_ c2 c3 f3 c5 c6; (repeat (first | exact bnil _ | refine Below.drew ?_ | refine bnew ?_ _))))
            clear hK K
            try simp only [Act.put, List.setIfInBounds_toArray, List.set_cons_zero, List.set_cons_succ]
            refine wpAnyH_take (i := 13) (oi := ⟨some 45, _, _, _, _, _⟩) (v := ?_) rfl (by kernel_rfl) (by kernel_rfl) (by kernel_rfl) (fun _ _ _ h => h) (Or.inl ⟨by rfl, ?_⟩) (by assumption) ?_
            rotate_left
            · intro w hSw; (try dsimp only at hSw); go_simp <;> with_reducible rfl
            try simp only [Act.put, List.setIfInBounds_toArray, List.set_cons_zero, List.set_cons_succ]
            refine wpAnyH_ready (rs := [14]) (by kernel_rfl) (by simp) ?_
            refine AllReadyH.cons (o := ⟨none, _, _, _, _, _⟩) rfl (fun K hK => ?_) AllReadyH.nil
            go_simp
            refine hK.out _ _ ?_ (fun hHeld => ?_)
            · (try dsimp only); (first | assumption | exact ⟨c2, f3, c5, c6⟩ | exact HZ.1 | exact HZ.2.2 _ | (refine sees4f ?_ c2 c3 f3 c5 c6; (repeat (first | exact bnil _ | refine Below.drew ?_ | refine bnew ?_ _))))
            clear hK K
            try dsimp only [Act.put]
            refine wpAnyH_done (by kernel_rfl) ?_ _
            rotate_left
            refine AllReadyH.cons (o := ⟨some 43, _, _, _, _, _⟩) rfl (fun K hK => ?_) AllReadyH.nil
            go_simp
            refine hK.out _ _ ?_ (fun hHeld => ?_)
            · (try dsimp only); (first | assumption | exact ⟨c2, f3, c5, c6⟩ | exact HZ.1 | exact HZ.2.2 _ | (refine sees4f ?_ c2 c3 f3 c5 c6; (repeat (first | exact bnil _ | refine Below.drew ?_ | refine bnew ?_ _))))
            clear hK K
            try simp only [Act.put, List.setIfInBounds_toArray, List.set_cons_zero, List.set_cons_succ]
            refine wpAnyH_ready (rs := [9]) (by kernel_rfl) (by simp) ?_
            refine AllReadyH.cons (o := ⟨some 41, _, _, _, _, _⟩) rfl (fun K hK => ?_) AllReadyH.nil
            go_simp
            refine hK.out _ _ ?_ (fun hHeld => ?_)
            · (try dsimp only); (first | assumption | exact ⟨c2, f3, c5, c6⟩ | exact HZ.1 | exact HZ.2.2 _ | (refine sees4f ?_ c2 c3 f3 c5 c6; (repeat (first | exact bnil _ | refine Below.drew ?_ | refine bnew ?_ _))))
            clear hK K
            try simp only [Act.put, List.setIfInBounds_toArray, List.set_cons_zero, List.set_cons_succ]
            refine wpAnyH_ready (rs := [12]) (by kernel_rfl) (by simp) ?_
            refine AllReadyH.cons (o := ⟨some 44, _, _, _, _, _⟩) rfl (fun K hK => ?_) AllReadyH.nil
            (refine step_appC elmCN gS_one rfl (.tmp 41) (.tmp 43) rfl (.slice Aj L cj) ((countThs cs k j).zip (av j)) rfl (HOW.out _ (bnew (bnil _) _).drew) [((⟨0, [(V : Int)]⟩ : VCall), (⟨(some ⟨bc + 1, 0, none⟩), 1, 1⟩ : SV))] y HYE rfl (Sl.drew (Sl.fresh' _ #[_, _] 46 2 1 _ (by simp) rfl)) rfl (by rw [HYL.out]; simp only [maxLen]; omega) (by rw [HYL.out]; omega) (Nat.le_trans HBS.out (bnew (bnil _) _).drew.size) ?_; intro E6 c6' w6 hc6 hc7 HN6 HG6 HO6; have HZ := HGW.out _ w6 (bnew (bnil _) _).drew HG6.out)
            refine hK.out _ _ ?_ (fun hHeld => ?_)
            · (try dsimp only); (first | assumption | exact ⟨c2, f3, c5, c6⟩ | exact HZ.1 | exact HZ.2.2 _ | (refine sees4f ?_ c2 c3 f3 c5 c6; (repeat (first | exact bnil _ | refine Below.drew ?_ | refine bnew ?_ _))))
            clear hK K
            try simp only [Act.put, List.setIfInBounds_toArray, List.set_cons_zero, List.set_cons_succ]
            refine wpAnyH_take (i := 13) (oi := ⟨some 45, _, _, _, _, _⟩) (v := ?_) rfl (by kernel_rfl) (by kernel_rfl) (by kernel_rfl) (fun _ _ _ h => h) (Or.inl ⟨by rfl, ?_⟩) (by assumption) ?_
            rotate_left
            · intro w hSw; (try dsimp only at hSw); go_simp <;> with_reducible rfl
            try simp only [Act.put, List.setIfInBounds_toArray, List.set_cons_zero, List.set_cons_succ]
            refine wpAnyH_ready (rs := [14]) (by kernel_rfl) (by simp) ?_
            refine AllReadyH.cons (o := ⟨none, _, _, _, _, _⟩) rfl (fun K hK => ?_) AllReadyH.nil
            go_simp
            refine hK.out _ _ ?_ (fun hHeld => ?_)
            · (try dsimp only); (first | assumption | exact ⟨c2, f3, c5, c6⟩ | exact HZ.1 | exact HZ.2.2 _ | (refine sees4f ?_ c2 c3 f3 c5 c6; (repeat (first | exact bnil _ | refine Below.drew ?_ | refine bnew ?_ _))))
            clear hK K
            try dsimp only [Act.put]
            refine wpAnyH_done (by kernel_rfl) ?_ _
            rotate_left
            all_goals
              obtain ⟨g1, g2⟩ := MX5.out.grown hj3 (bnew (bnil _) _).drew (by rw [HAJ.out]; exact HG6.out)
              have HX6 := hid ((g2 (by decide) HX5.out).far (p := ⟨T, j, none⟩) ((g2 (by decide) HX5.out).ne_ g1 (by decide)) (.slice E6 y.length c6'))
              have HR6 := hid ((g2 (by decide) RX5.out).far (p := ⟨T, j, none⟩) ((g2 (by decide) RX5.out).ne_ g1 (by decide)) (.slice E6 y.length c6'))
              have HB6 := hid (MX5.out.chg hj3 (bnew (bnil _) _).drew (by rw [HAJ.out]; exact HG6.out) BX5.out rfl (.slice E6 y.length c6')).2
              have HW6 := hid (MX5.out.other hj3 (bnew (bnil _) _).drew (by rw [HAJ.out]; exact HG6.out) WX5.out (by decide) (by decide) (.slice E6 y.length c6'))
              have HM6 := hid (MX5.out.snoc hj3 [⟨0, [(V : Int)]⟩] [⟨(some ⟨bc + 1, 0, none⟩), 1, 1⟩] (bnew (bnil _) _).drew rfl HFR.out HYE.out (by rw [HAJ.out]; exact HG6.out) (by rw [HAJ.out]; exact HO6.out) HN6.out)
              clear g1 g2 HZ HG6 HO6 HN6
              go_wp2
              go_roundw
              case rel => exact ⟨k + 1, _, _, by omega, by go_num, HX6, HR6, HW6, hid (by have h1 := HM6.out; rw [← HCC.out, ← HV.out, countThs_upd cs HJ.out] at h1; exact h1), HB6⟩
              case measure => simp [intOf]; omega
        · have i2 : ¬ (k : Int) < (r : Int) := by omega
          go_upto_region 11 with fail
          have HCC := hid (show ccall 0 = ⟨1, []⟩ from rfl)
          have B5 := hid (bnew (bnil wr) (.cells #[.int .i64 1, .slice none 0 0] 46))
          have XC := hid (blkN wr 46 #[.int .i64 1, .slice none 0 0] bc HBC.out)
          have OA := hid (show (wr.alloc (.cells #[.int .i64 1, .slice none 0 0] 46)).ownsRow w.heap.size 3 1 (.slice none 0 0) 0 [] from own0 _ _ _ 1)
          have hbc := HBC.out
          rw [hbc]
          clear hbc
          generalize World.alloc wr (.cells #[.int .i64 1, .slice none 0 0] 46) = w5 at *
          have HX5 := hid (HX.out.below' B5.out); have RX5 := hid (RX.out.below' B5.out); have WX5 := hid (own_below WX.out B5.out); have MX5 := hid (MX.out.below B5.out); have BX5 := hid (bgo BX.out B5.out)
          have c2 : w5.cell? ⟨X, 2, none⟩ = some (.slice (some ⟨T, 0, none⟩) 3 3) := HX5.out.cell 2
          have c3 : w5.cell? ⟨T, j, none⟩ = some (tv j) := by rw [MX5.out.tb.cell j]; exact arrN_at tv hj3
          have f3 : w5.frozen? ⟨T, j, none⟩ = false := MX5.out.tb.frozen j
          have c5 : w5.cell? ⟨bc, 0, none⟩ = some (.int .i64 1) := XC.out.cell 0
          have c6 : w5.cell? ⟨bc, 1, none⟩ = some (.slice none 0 0) := XC.out.cell 1
          have hrow := MX5.out.rows j hj3
          obtain ⟨L, hL⟩ : ∃ L, (countThs cs k j).length = L := ⟨_, rfl⟩
          have hL9 : L ≤ 9 := by have := countThs_len cs k j; omega
          obtain ⟨Aj, cj, hAj, hcj1, hcj2⟩ := own_form hrow.2.1
          rw [hL] at hAj hcj1
          rw [hAj] at c3
          have HAJ := hid hAj
          have HROW := hid hrow
          have HLL := hid hL
          clear hAj hrow hL
          have ltT := World.block_lt_of_cell? w5 _ c3
          have ltX := World.block_lt_of_cell? w5 _ c2
          have ltC := World.block_lt_of_cell? w5 _ c5
          have hTbc : T ≠ bc := by have h1 := MX.out.tb.lt; have h2 := HBC.out; omega
          have hXbc : X ≠ bc := by have h1 := HX.out.lt; have h2 := HBC.out; omega
          obtain ⟨y, hy⟩ : ∃ y, (countThs cs k j).zip (av j) ++ [((⟨1, []⟩ : VCall), (⟨none, 0, 0⟩ : SV))] = y := ⟨_, rfl⟩
          have HYE := hid hy
          have HYL := hid (show y.length = L + 1 by rw [← hy, List.length_append, List.length_zip, HROW.out.1, HLL.out]; simp)
          clear hy
          have HBS := hid BX5.out.size
          have HOW := hid (show ∀ w', Below w5.heap.size w5 w' → w'.ownsRow w.heap.size 46 2 (.slice Aj L cj) ((countThs cs k j).zip (av j)).length (((countThs cs k j).zip (av j)).flatMap gS) from fun w' hb => by
            have h1 := own_below HROW.out.2.1 hb
            rw [HAJ.out] at h1
            rw [List.length_zip, HROW.out.1, Nat.min_self]
            exact h1)
          have HAB := hid (show ∀ b, (Value.slice Aj L cj).ownBlock = some b → b ≠ bc from fun b hb => by
            have h1 := own_ge (MX.out.rows j hj3).2.1 b (by rw [HAJ.out]; exact hb)
            have h2 := HBC.out
            omega)
          have HGW := hid (show ∀ wA w6, Below w5.heap.size w5 wA → wA.grownBy w6 (Value.slice Aj L cj).ownBlock → (w6.cell? ⟨X, 2, none⟩ = some (.slice (some ⟨T, 0, none⟩) 3 3) ∧ w6.frozen? ⟨T, j, none⟩ = false ∧ w6.cell? ⟨bc, 0, none⟩ = some (.int .i64 1) ∧ w6.cell? ⟨bc, 1, none⟩ = some (.slice none 0 0)) ∧ w6.cell? ⟨T, j, none⟩ = some (.slice Aj L cj) ∧
            ∀ v, ((w6.setCell ⟨T, j, none⟩ v).cell? ⟨X, 2, none⟩ = some (.slice (some ⟨T, 0, none⟩) 3 3) ∧ (w6.setCell ⟨T, j, none⟩ v).frozen? ⟨T, j, none⟩ = false ∧ (w6.setCell ⟨T, j, none⟩ v).cell? ⟨bc, 0, none⟩ = some (.int .i64 1) ∧ (w6.setCell ⟨T, j, none⟩ v).cell? ⟨bc, 1, none⟩ = some (.slice none 0 0)) from fun wA w6 hb hG => by
            have gC : Blk w6 bc 46 #[.int .i64 1, .slice none 0 0] := (Chg.of_grown hG (M := fun k => (Value.slice Aj L cj).ownBlock = some k) (fun k e => e)).blk (XC.out.below' hb) (fun e => HAB.out bc e rfl)
            rw [← HAJ.out] at hG
            obtain ⟨g1, g2⟩ := MX5.out.grown hj3 hb hG
            have gX := g2 (by decide) HX5.out
            have gC2 := fun v => gC.far (p := ⟨T, j, none⟩) (fun e => hTbc e.symm) v
            exact ⟨⟨gX.cell 2, g1.frozen j, gC.cell 0, gC.cell 1⟩, by rw [g1.cell j, arrN_at tv hj3, HAJ.out], fun v => ⟨(gX.far (p := ⟨T, j, none⟩) (gX.ne_ g1 (by decide)) v).cell 2, (g1.set_ j v).frozen j, (gC2 v).cell 0, (gC2 v).cell 1⟩⟩)
          have HFR := hid (show ∀ (k' : Nat) (c : VCall) (a : SV), ([⟨1, []⟩] : List VCall)[k']? = some c → ([⟨none, 0, 0⟩] : List SV)[k']? = some a → ((w5.alloc (.cells #[.int .i64 1, .slice none 0 0] 46))).drew.ownsRow w.heap.size 3 1 a.v c.args.length (c.args.flatMap gI) from fun k' c a hc ha => by
            rw [List.getElem?_singleton] at hc ha
            split at hc
            · rename_i h; rw [if_pos h] at ha
              injection hc with hc; injection ha with ha
              subst hc ha
              exact own_below OA.out (bnew (bnil _) _).drew
            · cases hc)
          refine wp_region_held_drew (S := (fun w' => w'.cell? ⟨X, 2, none⟩ = some (.slice (some ⟨T, 0, none⟩) 3 3) ∧ w'.frozen? ⟨T, j, none⟩ = false ∧ w'.cell? ⟨bc, 0, none⟩ = some (.int .i64 1) ∧ w'.cell? ⟨bc, 1, none⟩ = some (.slice none 0 0))) (by kernel_rfl) ?_ (fun hHeld => ?_)
          · (try dsimp only); (first | assumption | exact ⟨c2, f3, c5, c6⟩ | exact HZ.1 | exact HZ.2.2 _ | (refine sees4f ?_ c2 c3 f3 c5 c6; (repeat (first | exact bnil _ | refine Below.drew ?_ | refine bnew ?_ _))))
          refine wpAnyH_take (i := 0) (oi := ⟨some 32, _, _, _, _, _⟩) (v := ?_) rfl (by kernel_rfl) (by kernel_rfl) (by kernel_rfl) (fun _ _ _ h => h) (Or.inl ⟨by rfl, ?_⟩) (by assumption) ?_
          rotate_left
          · intro w hSw; (try dsimp only at hSw); go_simp <;> with_reducible rfl
          try simp only [Act.put, List.setIfInBounds_toArray, List.set_cons_zero, List.set_cons_succ]
          refine wpAnyH_take (i := 1) (oi := ⟨some 33, _, _, _, _, _⟩) (v := ?_) rfl (by kernel_rfl) (by kernel_rfl) (by kernel_rfl) (fun _ _ _ h => h) (Or.inl ⟨by rfl, ?_⟩) (by assumption) ?_
          rotate_left
          · intro w hSw; (try dsimp only at hSw); go_simp <;> with_reducible rfl
          try simp only [Act.put, List.setIfInBounds_toArray, List.set_cons_zero, List.set_cons_succ]
          refine wpAnyH_take (i := 2) (oi := ⟨some 34, _, _, _, _, _⟩) (v := ?_) rfl (by kernel_rfl) (by kernel_rfl) (by kernel_rfl) (fun _ _ _ h => h) (Or.inl ⟨by rfl, ?_⟩) (by assumption) ?_
          rotate_left
          · intro w hSw; (try dsimp only at hSw); go_simp <;> with_reducible rfl
          try simp only [Act.put, List.setIfInBounds_toArray, List.set_cons_zero, List.set_cons_succ]
          refine wpAnyH_take (i := 3) (oi := ⟨some 35, _, _, _, _, _⟩) (v := ?_) rfl (by kernel_rfl) (by kernel_rfl) (by kernel_rfl) (fun _ _ _ h => h) (Or.inl ⟨by rfl, ?_⟩) (by assumption) ?_
          rotate_left
          · intro w hSw; (try dsimp only at hSw); go_simp <;> with_reducible rfl
          try simp only [Act.put, List.setIfInBounds_toArray, List.set_cons_zero, List.set_cons_succ]
          refine wpAnyH_take (i := 4) (oi := ⟨some 36, _, _, _, _, _⟩) (v := ?_) rfl (by kernel_rfl) (by kernel_rfl) (by kernel_rfl) (fun _ _ _ h => h) (Or.inl ⟨by rfl, ?_⟩) (by assumption) ?_
          rotate_left
          · intro w hSw; (try dsimp only at hSw); go_simp <;> with_reducible rfl
          try simp only [Act.put, List.setIfInBounds_toArray, List.set_cons_zero, List.set_cons_succ]
          refine wpAnyH_take (i := 5) (oi := ⟨some 37, _, _, _, _, _⟩) (v := ?_) rfl (by kernel_rfl) (by kernel_rfl) (by kernel_rfl) (fun _ _ _ h => h) (Or.inl ⟨by rfl, ?_⟩) (by assumption) ?_
          rotate_left
          · intro w hSw; (try dsimp only at hSw); go_simp <;> with_reducible rfl
          try simp only [Act.put, List.setIfInBounds_toArray, List.set_cons_zero, List.set_cons_succ]
          refine wpAnyH_take (i := 6) (oi := ⟨some 38, _, _, _, _, _⟩) (v := ?_) rfl (by kernel_rfl) (by kernel_rfl) (by kernel_rfl) (fun _ _ _ h => h) (Or.inl ⟨by rfl, ?_⟩) (by assumption) ?_
          rotate_left
          · intro w hSw; (try dsimp only at hSw); go_simp <;> with_reducible rfl
          try simp only [Act.put, List.setIfInBounds_toArray, List.set_cons_zero, List.set_cons_succ]
          refine wpAnyH_take (i := 7) (oi := ⟨some 39, _, _, _, _, _⟩) (v := ?_) rfl (by kernel_rfl) (by kernel_rfl) (by kernel_rfl) (fun _ _ _ h => h) (Or.inl ⟨by rfl, ?_⟩) (by assumption) ?_
          rotate_left
          · intro w hSw; (try dsimp only at hSw); go_simp <;> with_reducible rfl
          try simp only [Act.put, List.setIfInBounds_toArray, List.set_cons_zero, List.set_cons_succ]
          refine wpAnyH_take (i := 8) (oi := ⟨some 40, _, _, _, _, _⟩) (v := ?_) rfl (by kernel_rfl) (by kernel_rfl) (by kernel_rfl) (fun _ _ _ h => h) (Or.inl ⟨by rfl, ?_⟩) (by assumption) ?_
          rotate_left
          · intro w hSw; (try dsimp only at hSw); go_simp <;> with_reducible rfl
          try simp only [Act.put, List.setIfInBounds_toArray, List.set_cons_zero, List.set_cons_succ]
          refine wpAnyH_take (i := 10) (oi := ⟨some 42, _, _, _, _, _⟩) (v := ?_) rfl (by kernel_rfl) (by kernel_rfl) (by kernel_rfl) (fun _ _ _ h => h) (Or.inl ⟨by rfl, ?_⟩) (by assumption) ?_
          rotate_left
          · intro w hSw; (try dsimp only at hSw); go_simp <;> with_reducible rfl
          try simp only [Act.put, List.setIfInBounds_toArray, List.set_cons_zero, List.set_cons_succ]
          refine wpAnyH_ready (rs := [9, 11]) (by kernel_rfl) (by simp) ?_
          refine AllReadyH.cons (o := ⟨some 41, _, _, _, _, _⟩) rfl (fun K hK => ?_) ?_
          go_simp
          refine hK.out _ _ ?_ (fun hHeld => ?_)
          · (try dsimp only); (first | assumption | exact ⟨c2, f3, c5, c6⟩ | exact HZ.1 | exact HZ.2.2 _ | (refine sees4f ?_ c2 c3 f3 c5 c6; (repeat (first | exact bnil _ | refine Below.drew ?_ | refine bnew ?_ _))))
          clear hK K
          try simp only [Act.put, List.setIfInBounds_toArray, List.set_cons_zero, List.set_cons_succ]
          refine wpAnyH_ready (rs := [11]) (by kernel_rfl) (by simp) ?_
          refine AllReadyH.cons (o := ⟨some 43, _, _, _, _, _⟩) rfl (fun K hK => ?_) AllReadyH.nil
          go_simp
          refine hK.out _ _ ?_ (fun hHeld => ?_)
          · (try dsimp only); (first | assumption | exact ⟨c2, f3, c5, c6⟩ | exact HZ.1 | exact HZ.2.2 _ | (refine sees4f ?_ c2 c3 f3 c5 c6; (repeat (first | exact bnil _ | refine Below.drew ?_ | refine bnew ?_ _))))
          clear hK K
          try simp only [Act.put, List.setIfInBounds_toArray, List.set_cons_zero, List.set_cons_succ]
          refine wpAnyH_ready (rs := [12]) (by kernel_rfl) (by simp) ?_
          refine AllReadyH.cons (o := ⟨some 44, _, _, _, _, _⟩) rfl (fun K hK => ?_) AllReadyH.nil
          (refine step_appC elmCN gS_one rfl (.tmp 41) (.tmp 43) rfl (.slice Aj L cj) ((countThs cs k j).zip (av j)) rfl (HOW.out _ (bnew (bnil _) _).drew) [((⟨1, []⟩ : VCall), (⟨none, 0, 0⟩ : SV))] y HYE rfl (Sl.drew (Sl.fresh' _ #[_, _] 46 2 1 _ (by simp) rfl)) rfl (by rw [HYL.out]; simp only [maxLen]; omega) (by rw [HYL.out]; omega) (Nat.le_trans HBS.out (bnew (bnil _) _).drew.size) ?_; intro E6 c6' w6 hc6 hc7 HN6 HG6 HO6; have HZ := HGW.out _ w6 (bnew (bnil _) _).drew HG6.out)
          refine hK.out _ _ ?_ (fun hHeld => ?_)
          · (try dsimp only); (first | assumption | exact ⟨c2, f3, c5, c6⟩ | exact HZ.1 | exact HZ.2.2 _ | (refine sees4f ?_ c2 c3 f3 c5 c6; (repeat (first | exact bnil _ | refine Below.drew ?_ | refine bnew ?_ _))))
          clear hK K
          try simp only [Act.put, List.setIfInBounds_toArray, List.set_cons_zero, List.set_cons_succ]
          refine wpAnyH_take (i := 13) (oi := ⟨some 45, _, _, _, _, _⟩) (v := ?_) rfl (by kernel_rfl) (by kernel_rfl) (by kernel_rfl) (fun _ _ _ h => h) (Or.inl ⟨by rfl, ?_⟩) (by assumption) ?_
          rotate_left
          · intro w hSw; (try dsimp only at hSw); go_simp <;> with_reducible rfl
          try simp only [Act.put, List.setIfInBounds_toArray, List.set_cons_zero, List.set_cons_succ]
          refine wpAnyH_ready (rs := [14]) (by kernel_rfl) (by simp) ?_
          refine AllReadyH.cons (o := ⟨none, _, _, _, _, _⟩) rfl (fun K hK => ?_) AllReadyH.nil
          go_simp
          refine hK.out _ _ ?_ (fun hHeld => ?_)
          · (try dsimp only); (first | assumption | exact ⟨c2, f3, c5, c6⟩ | exact HZ.1 | exact HZ.2.2 _ | (refine sees4f ?_ c2 c3 f3 c5 c6; (repeat (first | exact bnil _ | refine Below.drew ?_ | refine bnew ?_ _))))
          clear hK K
          try dsimp only [Act.put]
          refine wpAnyH_done (by kernel_rfl) ?_ _
          rotate_left
          refine AllReadyH.cons (o := ⟨some 43, _, _, _, _, _⟩) rfl (fun K hK => ?_) AllReadyH.nil
          go_simp
          refine hK.out _ _ ?_ (fun hHeld => ?_)
          · (try dsimp only); (first | assumption | exact ⟨c2, f3, c5, c6⟩ | exact HZ.1 | exact HZ.2.2 _ | (refine sees4f ?_ c2 c3 f3 c5 c6; (repeat (first | exact bnil _ | refine Below.drew ?_ | refine bnew ?_ _))))
          clear hK K
          try simp only [Act.put, List.setIfInBounds_toArray, List.set_cons_zero, List.set_cons_succ]
          refine wpAnyH_ready (rs := [9]) (by kernel_rfl) (by simp) ?_
          refine AllReadyH.cons (o := ⟨some 41, _, _, _, _, _⟩) rfl (fun K hK => ?_) AllReadyH.nil
          go_simp
          refine hK.out _ _ ?_ (fun hHeld => ?_)
          · (try dsimp only); (first | assumption | exact ⟨c2, f3, c5, c6⟩ | exact HZ.1 | exact HZ.2.2 _ | (refine sees4f ?_ c2 c3 f3 c5 c6; (repeat (first | exact bnil _ | refine Below.drew ?_ | refine bnew ?_ _))))
          clear hK K
          try simp only [Act.put, List.setIfInBounds_toArray, List.set_cons_zero, List.set_cons_succ]
          refine wpAnyH_ready (rs := [12]) (by kernel_rfl) (by simp) ?_
          refine AllReadyH.cons (o := ⟨some 44, _, _, _, _, _⟩) rfl (fun K hK => ?_) AllReadyH.nil
          (refine step_appC elmCN gS_one rfl (.tmp 41) (.tmp 43) rfl (.slice Aj L cj) ((countThs cs k j).zip (av j)) rfl (HOW.out _ (bnew (bnil _) _).drew) [((⟨1, []⟩ : VCall), (⟨none, 0, 0⟩ : SV))] y HYE rfl (Sl.drew (Sl.fresh' _ #[_, _] 46 2 1 _ (by simp) rfl)) rfl (by rw [HYL.out]; simp only [maxLen]; omega) (by rw [HYL.out]; omega) (Nat.le_trans HBS.out (bnew (bnil _) _).drew.size) ?_; intro E6 c6' w6 hc6 hc7 HN6 HG6 HO6; have HZ := HGW.out _ w6 (bnew (bnil _) _).drew HG6.out)
          refine hK.out _ _ ?_ (fun hHeld => ?_)
          · (try dsimp only); (first | assumption | exact ⟨c2, f3, c5, c6⟩ | exact HZ.1 | exact HZ.2.2 _ | (refine sees4f ?_ c2 c3 f3 c5 c6; (repeat (first | exact bnil _ | refine Below.drew ?_ | refine bnew ?_ _))))
          clear hK K
          try simp only [Act.put, List.setIfInBounds_toArray, List.set_cons_zero, List.set_cons_succ]
          refine wpAnyH_take (i := 13) (oi := ⟨some 45, _, _, _, _, _⟩) (v := ?_) rfl (by kernel_rfl) (by kernel_rfl) (by kernel_rfl) (fun _ _ _ h => h) (Or.inl ⟨by rfl, ?_⟩) (by assumption) ?_
          rotate_left
          · intro w hSw; (try dsimp only at hSw); go_simp <;> with_reducible rfl
          try simp only [Act.put, List.setIfInBounds_toArray, List.set_cons_zero, List.set_cons_succ]
          refine wpAnyH_ready (rs := [14]) (by kernel_rfl) (by simp) ?_
          refine AllReadyH.cons (o := ⟨none, _, _, _, _, _⟩) rfl (fun K hK => ?_) AllReadyH.nil
          go_simp
          refine hK.out _ _ ?_ (fun hHeld => ?_)
          · (try dsimp only); (first | assumption | exact ⟨c2, f3, c5, c6⟩ | exact HZ.1 | exact HZ.2.2 _ | (refine sees4f ?_ c2 c3 f3 c5 c6; (repeat (first | exact bnil _ | refine Below.drew ?_ | refine bnew ?_ _))))
          clear hK K
          try dsimp only [Act.put]
          refine wpAnyH_done (by kernel_rfl) ?_ _
          rotate_left
          all_goals
            obtain ⟨g1, g2⟩ := MX5.out.grown hj3 (bnew (bnil _) _).drew (by rw [HAJ.out]; exact HG6.out)
            have HX6 := hid ((g2 (by decide) HX5.out).far (p := ⟨T, j, none⟩) ((g2 (by decide) HX5.out).ne_ g1 (by decide)) (.slice E6 y.length c6'))
            have HR6 := hid ((g2 (by decide) RX5.out).far (p := ⟨T, j, none⟩) ((g2 (by decide) RX5.out).ne_ g1 (by decide)) (.slice E6 y.length c6'))
            have HB6 := hid (MX5.out.chg hj3 (bnew (bnil _) _).drew (by rw [HAJ.out]; exact HG6.out) BX5.out rfl (.slice E6 y.length c6')).2
            have HW6 := hid (MX5.out.other hj3 (bnew (bnil _) _).drew (by rw [HAJ.out]; exact HG6.out) WX5.out (by decide) (by decide) (.slice E6 y.length c6'))
            have HM6 := hid (MX5.out.snoc hj3 [⟨1, []⟩] [⟨none, 0, 0⟩] (bnew (bnil _) _).drew rfl HFR.out HYE.out (by rw [HAJ.out]; exact HG6.out) (by rw [HAJ.out]; exact HO6.out) HN6.out)
            clear g1 g2 HZ HG6 HO6 HN6
            go_wp2
            go_roundw
            case rel => exact ⟨k + 1, _, _, by omega, by go_num, HX6, HR6, HW6, hid (by have h1 := HM6.out; rw [← HCC.out, ← HV.out, countThs_upd cs HJ.out] at h1; exact h1), HB6⟩
            case measure => simp [intOf]; omega
      · obtain rfl : k = 9 := by omega
        have i1 : ¬ (((9 : Nat) : Int)) < 9 := by omega
        have y0 : wr.cell? ⟨X, 0, none⟩ = some (.slice AW 1 cW) := HX.out.cell 0
        have y1 : wr.cell? ⟨X, 1, none⟩ = some (.slice (some ⟨Cb, 0, none⟩) 2 2) := HX.out.cell 1
        have y2 : wr.cell? ⟨X, 2, none⟩ = some (.slice (some ⟨T, 0, none⟩) 3 3) := HX.out.cell 2
        have z0 := RX.out.frozen 0
        have z1 := RX.out.frozen 1
        have z2 := RX.out.frozen 2
        have z3 : wr.cell? ⟨w.heap.size, 0, none⟩ = some (.slice none 0 0) := RX.out.cell 0
        have z4 : wr.cell? ⟨w.heap.size, 1, none⟩ = some (.slice none 0 0) := RX.out.cell 1
        have z5 : wr.cell? ⟨w.heap.size, 2, none⟩ = some (.slice none 0 0) := RX.out.cell 2
        go_wp2
        obtain ⟨q0, q1, q2⟩ := set3N RX.out (.slice AW 1 cW) (.slice (some ⟨Cb, 0, none⟩) 2 2) (.slice (some ⟨T, 0, none⟩) 3 3)
        refine bodyPost_ret (v := .agg #[.slice AW 1 cW, .slice (some ⟨Cb, 0, none⟩) 2 2, .slice (some ⟨T, 0, none⟩) 3 3]) (by simp [results, Tryd.results26, go_sem, q0, q1, q2]) rfl ?_
        exact ⟨AW, cW, Cb, T, _, tv, av, rfl, own_res WX.out RX.out (by decide) _ _ _, MX.out.res RX.out _ _ _, below3N BX.out _ _ _⟩
end Go.Proofs.YtnoinojhocicjaaDoor
