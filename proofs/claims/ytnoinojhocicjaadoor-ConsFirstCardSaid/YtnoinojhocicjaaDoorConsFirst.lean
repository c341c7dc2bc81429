/-
  ConsFirst: its walk. Written by gen_consf.py.
-/
import Derived.Test.YtnoinojhocicjaaDoorConsAt
namespace Go.Proofs.YtnoinojhocicjaaDoor
open Go.RowKit
set_option linter.unusedVariables false

/-- the first region of consf's machine -/
structure consfR (w0 : World)  (L : Nat → Bool) (x15 x16 x17 x18 x19 x7 : Value) (w : World) : Prop where
  b : Below w0.heap.size w0 w
  f0 : L 0 = true → w.ownsRow w0.heap.size 3 1 x15 1 (([-1]).flatMap gI)
  f1 : L 1 = true → w.ownsRow w0.heap.size 81 5 x16 (consCode).length ((consCode).flatMap gO)
  f2 : L 2 = true → ∃ b, x17 = .slice (some ⟨b, 0, none⟩) 1 1 ∧ w0.heap.size ≤ b ∧ Blk w b 33 #[x16]
  f3 : L 3 = true → ∃ b, x18 = .slice (some ⟨b, 0, none⟩) 2 2 ∧ w0.heap.size ≤ b ∧ Blk w b 44 #[.slice none 0 0, .slice none 0 0]
  f4 : L 4 = true → x19 = .agg #[x15, x17, x18]
  f5 : L 5 = true → L 6 = false → ∃ b, x7 = .pointer (some ⟨b, 0, none⟩) ∧ w0.heap.size ≤ b ∧ Blk w b 27 #[.slice none 0 0, .slice none 0 0, .slice none 0 0]
  f6 : L 6 = true → ∃ b, x7 = .pointer (some ⟨b, 0, none⟩) ∧ w0.heap.size ≤ b ∧ Blk w b 27 #[x15, x17, x18]
section
variable {w0 : World}  {L : Nat → Bool} {x15 x16 x17 x18 x19 x7 : Value} {w w' : World}
theorem consfR.below (h : consfR w0 L x15 x16 x17 x18 x19 x7 w) (hb : Below w.heap.size w w') : consfR w0 L x15 x16 x17 x18 x19 x7 w' where
  b := bgo h.b hb
  f0 := fun e => own_below (h.f0 e) hb
  f1 := fun e => own_below (h.f1 e) hb
  f2 := fun e => by obtain ⟨b, h1, h2, h3⟩ := h.f2 e; exact ⟨b, h1, h2, h3.below' hb⟩
  f3 := fun e => by obtain ⟨b, h1, h2, h3⟩ := h.f3 e; exact ⟨b, h1, h2, h3.below' hb⟩
  f4 := h.f4
  f5 := fun e e' => by obtain ⟨b, h1, h2, h3⟩ := h.f5 e e'; exact ⟨b, h1, h2, h3.below' hb⟩
  f6 := fun e => by obtain ⟨b, h1, h2, h3⟩ := h.f6 e; exact ⟨b, h1, h2, h3.below' hb⟩
theorem consfR.store {X : Nat} {L' : Nat → Bool} (h : consfR w0 L x15 x16 x17 x18 x19 (.pointer (some ⟨X, 0, none⟩)) w) (hX : w0.heap.size ≤ X)
    (hb : Blk w X 27 #[.slice none 0 0, .slice none 0 0, .slice none 0 0]) (hL : ∀ i, i ≠ 6 → L' i = L i) (h9 : L' 6 = true) :
    consfR w0 L' x15 x16 x17 x18 x19 (.pointer (some ⟨X, 0, none⟩)) (((w.setCell ⟨X, 0, none⟩ x15).setCell ⟨X, 1, none⟩ x17).setCell ⟨X, 2, none⟩ x18) := by
  have hC : Chg (fun k => k = X) w (((w.setCell ⟨X, 0, none⟩ x15).setCell ⟨X, 1, none⟩ x17).setCell ⟨X, 2, none⟩ x18) :=
    (((Chg.refl (fun k => k = X) w).setCell (p := ⟨X, 0, none⟩) (fun _ => rfl) _).setCell (p := ⟨X, 1, none⟩) (fun _ => rfl) _).setCell (p := ⟨X, 2, none⟩) (fun _ => rfl) _
  have bk : ∀ {g t : Nat} {cs : Array Value}, t ≠ 27 → Blk w g t cs → Blk (((w.setCell ⟨X, 0, none⟩ x15).setCell ⟨X, 1, none⟩ x17).setCell ⟨X, 2, none⟩ x18) g t cs := fun h1 h2 => hC.blk h2 fun e => by subst e; exact h1 (blk_ty h2 hb)
  have ok : ∀ {B e sz : Nat} {v' : Value} {n : Nat} {xs : List Value}, e ≠ 27 → w.ownsRow B e sz v' n xs → (((w.setCell ⟨X, 0, none⟩ x15).setCell ⟨X, 1, none⟩ x17).setCell ⟨X, 2, none⟩ x18).ownsRow B e sz v' n xs := fun h1 h2 => own_chg h2 hC fun k hk e => own_ne_blk h2 hb h1 (by rw [hk, e])
  have e0 := hL 0 (by decide)
  have e1 := hL 1 (by decide)
  have e2 := hL 2 (by decide)
  have e3 := hL 3 (by decide)
  have e4 := hL 4 (by decide)
  refine ⟨((h.b.setCell (p := ⟨X, 0, none⟩) hX _).setCell (p := ⟨X, 1, none⟩) hX _).setCell (p := ⟨X, 2, none⟩) hX _, ?_, ?_, ?_, ?_, ?_, ?_, ?_⟩
  · rw [e0]; intro e; exact ok (by decide) (h.f0 e)
  · rw [e1]; intro e; exact ok (by decide) (h.f1 e)
  · rw [e2]; intro e; obtain ⟨b, h1, h2, h3⟩ := h.f2 e; exact ⟨b, h1, h2, bk (by decide) h3⟩
  · rw [e3]; intro e; obtain ⟨b, h1, h2, h3⟩ := h.f3 e; exact ⟨b, h1, h2, bk (by decide) h3⟩
  · rw [e4]; exact h.f4
  · intro _ e; rw [h9] at e; cases e
  · intro _; exact ⟨X, rfl, hX, ((hb.set_ 0 _).set_ 1 _).set_ 2 _⟩
end
/-- the schedule -/
def consS (w k : Nat) : List Nat := (List.range k).map fun i => if i < 60 then w else 1 - w
theorem consS_len (w k : Nat) : (consS w k).length = k := by simp [consS]
theorem consS_next (w k : Nat) : consS w (k + 1) = consS w k ++ [if k < 60 then w else 1 - w] := by simp [consS, List.range_succ]
theorem consS_lt {w : Nat} (hw : w < 2) (k : Nat) : ∀ x ∈ consS w k, x < 2 := by
  intro x hx
  unfold consS at hx
  obtain ⟨y, _, rfl⟩ := List.mem_map.1 hx
  split <;> omega
def consMF (w : Nat) (a b : Int) : Mach := ⟨[-1], [consCode], (List.range 2).map (upd (upd (fun _ => []) w [⟨0, [a]⟩]) (1 - w) [⟨0, [b]⟩])⟩
set_option maxRecDepth 1000000 in
theorem cons_run0 (a b : Nat) : doings (play (consMF 0 (a : Int) (b : Int)) (consS 0 120)).evs = [⟨0, some 3, 0, 0, [(a : Int)]⟩, ⟨60, some 63, 1, 0, [(a : Int)]⟩] := by kernel_rfl
set_option maxRecDepth 1000000 in
theorem cons_run1 (a b : Nat) : doings (play (consMF 1 (a : Int) (b : Int)) (consS 1 120)).evs = [⟨0, some 3, 1, 0, [(a : Int)]⟩, ⟨60, some 63, 0, 0, [(a : Int)]⟩] := by kernel_rfl
theorem cons_run {w : Nat} (hw : w < 2) (a b : Nat) : ∃ d0 d1, doings (play (consMF w (a : Int) (b : Int)) (consS w 120)).evs = [d0, d1] ∧ d0.told = [(a : Int)] ∧ d1.told = [(a : Int)] := by
  rcases (show w = 0 ∨ w = 1 by omega) with rfl | rfl
  · exact ⟨_, _, cons_run0 a b, rfl, rfl⟩
  · exact ⟨_, _, cons_run1 a b, rfl, rfl⟩
theorem consMF_ok {w : Nat} (hw : w < 2) (a b : Nat) : ConsM (consMF w (a : Int) (b : Int)) [-1] := by
  refine ⟨rfl, rfl, fun n calls nx c hc hcc => ?_⟩
  unfold consMF at hc
  rw [List.getElem?_map] at hc
  obtain ⟨u, _, rfl⟩ := Option.map_eq_some_iff.1 hc
  have key : ∀ x : Nat, ([⟨0, [(x : Int)]⟩] : List VCall)[nx]? = some c → c.code = 0 ∧ ∃ z : Int, c.args = [z] ∧ 0 ≤ z := by
    intro x h
    rw [List.getElem?_singleton] at h
    split at h
    · injection h with h; subst h; exact ⟨rfl, (x : Int), rfl, by omega⟩
    · cases h
  unfold upd at hcc
  split at hcc
  · exact key b hcc
  · split at hcc
    · exact key a hcc
    · cases hcc
set_option maxHeartbeats 4000000 in
set_option maxRecDepth 100000 in
theorem law_consFirst (xa xb xw : Int) (w : World) (ha : -9223372036854775808 ≤ xa) (ha1 : xa ≤ 9223372036854775807) (hb : -9223372036854775808 ≤ xb) (hb1 : xb ≤ 9223372036854775807) (hw : -9223372036854775808 ≤ xw) (hw1 : xw ≤ 9223372036854775807) (hT : STab w) :
    Calls Tryd.prog 6 #[.int .i64 xa, .int .i64 xb, .int .i64 xw] w fun e w' => e = .returned (.bool true) ∧ Below w.heap.size w w' := by
  have HT := hid hT
  clear hT
  go_enter Tryd.func6, Tryd.ntmps6
  go_upto_region 1 with fail
  have B0 := hid (bnil w)
  have B00 := B0.out.size
  refine wp_region_inv (by kernel_rfl) (fun a0 L a wr => ∃ x15 x16 x17 x18 x19 x7, a = ((((((a0.put (some 15) x15).put (some 16) x16).put (some 17) x17).put (some 18) x18).put (some 19) x19).put (some 7) x7) ∧ consfR w L x15 x16 x17 x18 x19 x7 wr) (by kernel_rfl) ?_ ?_ ?_
  · exact ⟨undef, undef, undef, undef, undef, undef, by kernel_rfl, ⟨(bnil w).drew, (fun h => by cases h), (fun h => by cases h), (fun h => by cases h), (fun h => by cases h), (fun h => by cases h), (fun h => by cases h), (fun h => by cases h)⟩⟩
  · intro j hj L b wr hR hLj hcl hpre
    obtain ⟨x15, x16, x17, x18, x19, x7, rfl, H⟩ := hR
    have hj' : j = 0 ∨ j = 1 ∨ j = 2 ∨ j = 3 ∨ j = 4 ∨ j = 5 ∨ j = 6 := by
      have : j < 7 := hj
      omega
    have lt0 := H.b.size
    rcases hj' with rfl | rfl | rfl | rfl | rfl | rfl | rfl
    · have hA : L 4 ≠ true := fun e => by have := hcl 4 0 (by kernel_rfl) e; rw [hLj] at this; cases this
      have hS : L 6 ≠ true := fun e => hA (hcl 6 4 (by kernel_rfl) e)
      clear hcl hpre
      refine wpOp_at rfl rfl fun K hK => ?_
      go_simp
      refine (cons_words wr).mono ?_
      rintro e w1 ⟨v, rfl, ho⟩
      have Hb := H.below ho.below
      exact hK _ _ ⟨v, x16, x17, x18, x19, x7, by kernel_rfl, ⟨Hb.b, fun _ => own_lower ho.own lt0, Hb.f1, Hb.f2, Hb.f3, fun e => absurd e hA, Hb.f5, fun e => absurd e hS⟩⟩
    · have hB : L 2 ≠ true := fun e => by have := hcl 2 1 (by kernel_rfl) e; rw [hLj] at this; cases this
      clear hcl hpre
      refine wpOp_at rfl rfl fun K hK => ?_
      go_simp
      refine (cons_propose wr).mono ?_
      rintro e w1 ⟨v, rfl, ho⟩
      have Hb := H.below ho.below
      exact hK _ _ ⟨x15, v, x17, x18, x19, x7, by kernel_rfl, ⟨Hb.b, Hb.f0, fun _ => own_lower ho.own lt0, fun e => absurd e hB, Hb.f3, Hb.f4, Hb.f5, Hb.f6⟩⟩
    · have hA : L 4 ≠ true := fun e => by have := hcl 4 2 (by kernel_rfl) e; rw [hLj] at this; cases this
      have hS : L 6 ≠ true := fun e => hA (hcl 6 4 (by kernel_rfl) e)
      obtain ⟨A1, k1, e1, _⟩ := own_form (H.f1 (hpre 1 (by kernel_rfl)))
      clear hcl hpre
      refine wpOp_at rfl rfl fun K hK => ?_
      subst e1
      go_simp
      have Hb := H.below (bnew (bnil wr) (.cells #[.slice A1 (consCode).length k1] 33))
      exact hK _ _ ⟨x15, _, .slice (some ⟨wr.heap.size, 0, none⟩) 1 1, x18, x19, x7, by kernel_rfl, ⟨Hb.b, Hb.f0, Hb.f1, fun _ => ⟨wr.heap.size, rfl, lt0, Blk.new wr _ _⟩, Hb.f3, fun e => absurd e hA, Hb.f5, fun e => absurd e hS⟩⟩
    · have hA : L 4 ≠ true := fun e => by have := hcl 4 3 (by kernel_rfl) e; rw [hLj] at this; cases this
      have hS : L 6 ≠ true := fun e => hA (hcl 6 4 (by kernel_rfl) e)
      clear hcl hpre
      refine wpOp_at rfl rfl fun K hK => ?_
      have hmk := mkT2 wr
      go_simp
      have Hb := H.below (bnew (bnil wr) (.cells #[.slice none 0 0, .slice none 0 0] 44))
      exact hK _ _ ⟨x15, x16, x17, .slice (some ⟨wr.heap.size, 0, none⟩) 2 2, x19, x7, by kernel_rfl, ⟨Hb.b, Hb.f0, Hb.f1, Hb.f2, fun _ => ⟨wr.heap.size, rfl, lt0, Blk.new wr _ _⟩, fun e => absurd e hA, Hb.f5, fun e => absurd e hS⟩⟩
    · have hS : L 6 ≠ true := fun e => by have := hcl 6 4 (by kernel_rfl) e; rw [hLj] at this; cases this
      obtain ⟨A0, k0, e0, _⟩ := own_form (H.f0 (hpre 0 (by kernel_rfl)))
      obtain ⟨b2, e2, _⟩ := H.f2 (hpre 2 (by kernel_rfl))
      obtain ⟨b3, e3, _⟩ := H.f3 (hpre 3 (by kernel_rfl))
      clear hcl hpre
      refine wpOp_at rfl rfl fun K hK => ?_
      subst e0; subst e2; subst e3
      go_simp
      exact hK _ _ ⟨_, x16, _, _, _, x7, by kernel_rfl, ⟨H.b, H.f0, H.f1, H.f2, H.f3, fun _ => rfl, H.f5, fun e => absurd e hS⟩⟩
    · have hS : L 6 ≠ true := fun e => by have := hcl 6 5 (by kernel_rfl) e; rw [hLj] at this; cases this
      clear hcl hpre
      refine wpOp_at rfl rfl fun K hK => ?_
      go_simp
      have Hb := H.below (bnew (bnil wr) (.cells #[.slice none 0 0, .slice none 0 0, .slice none 0 0] 27))
      exact hK _ _ ⟨x15, x16, x17, x18, x19, .pointer (some ⟨wr.heap.size, 0, none⟩), by kernel_rfl, ⟨Hb.b, Hb.f0, Hb.f1, Hb.f2, Hb.f3, Hb.f4, fun _ _ => ⟨wr.heap.size, rfl, lt0, Blk.new wr _ _⟩, fun e => absurd e hS⟩⟩
    · have eA := H.f4 (hpre 4 (by kernel_rfl))
      obtain ⟨X, eM, hX, hB⟩ := H.f5 (hpre 5 (by kernel_rfl)) hLj
      obtain ⟨A0, k0, e0, _⟩ := own_form (H.f0 (hcl 4 0 (by kernel_rfl) (hpre 4 (by kernel_rfl))))
      obtain ⟨b2, e2, _⟩ := H.f2 (hcl 4 2 (by kernel_rfl) (hpre 4 (by kernel_rfl)))
      obtain ⟨b3, e3, _⟩ := H.f3 (hcl 4 3 (by kernel_rfl) (hpre 4 (by kernel_rfl)))
      clear hcl hpre
      refine wpOp_at rfl rfl fun K hK => ?_
      subst eA; subst e0; subst e2; subst e3; subst eM
      have q0 := hB.cell 0; have q1 := hB.cell 1; have q2 := hB.cell 2
      have r0 := hB.frozen 0; have r1 := hB.frozen 1; have r2 := hB.frozen 2
      go_simp
      exact hK _ _ ⟨_, x16, _, _, _, _, by kernel_rfl, H.store hX hB (fun i hi => by simp [hi]) (by simp)⟩
  · intro L b wr hR hall
    obtain ⟨x15, x16, x17, x18, x19, x7, rfl, H⟩ := hR
    obtain ⟨X, rfl, hX, hB⟩ := H.f6 (hall 6 (by decide))
    obtain ⟨AW, cW, rfl, hcw, hcw2⟩ := own_form (H.f0 (hall 0 (by decide)))
    obtain ⟨Cb, rfl, hC, hCB⟩ := H.f2 (hall 2 (by decide))
    obtain ⟨T, rfl, hT, hTB⟩ := H.f3 (hall 3 (by decide))
    have BW := hid (bgo B0.out H.b)
    have HWO := hid (own_lower (H.f0 (hall 0 (by decide))) B00)
    have MM := hid (MN.start (B := w.heap.size) (w := wr) (nc := 1) (nt := 2) (cv := (fun i => [x16].getD i undef)) (ks := (fun i => [consCode].getD i [])) (v := fun _ => undef) (Nat.le_trans B00 hC) (Nat.le_trans B00 hT) hCB hTB (fun i hi => (by obtain rfl : i = 0 := (by omega); exact own_lower (H.f1 (hall 1 (by decide))) B00)))
    have HB := hid hB
    have hX' := Nat.le_trans B00 hX
    have ltX := hB.lt
    clear hB hCB hTB hC hT hX H hall hcw hcw2
    obtain ⟨bx, hbx⟩ : ∃ bx, wr.heap.size = bx := ⟨_, rfl⟩
    obtain ⟨p, hp⟩ : ∃ p, pk xw 2 = p := ⟨_, rfl⟩
    obtain ⟨x, hx⟩ : ∃ x, pk xa 1099511627776 = x := ⟨_, rfl⟩
    obtain ⟨y, hy⟩ : ∃ y, pk xb 1099511627776 = y := ⟨_, rfl⟩
    have hp2 : p < 2 := by have := pk_lt xw 2 (by decide); omega
    obtain ⟨p1, hp1⟩ : ∃ p1, 1 - p = p1 := ⟨_, rfl⟩
    have hp12 : p1 < 2 := by omega
    have epp : (1 : Int) - (p : Int) = (p1 : Int) := by omega
    have iwp : IntKind.i64.wrap (p1 : Int) = (p1 : Int) := IntWalk.i64_in _ (by omega)
    have HP := hid hp; have HXX := hid hx; have HYY := hid hy; have HP1 := hid hp1; have HBX := hid hbx
    have c2 : wr.cell? ⟨X, 2, none⟩ = some (.slice (some ⟨T, 0, none⟩) 2 2) := HB.out.cell 2
    have c3 : wr.cell? ⟨T, p, none⟩ = some (.slice none 0 0) := by rw [MM.out.tb.cell p]; exact arrN_at _ hp2
    have f3 : wr.frozen? ⟨T, p, none⟩ = false := MM.out.tb.frozen p
    have ltT := World.block_lt_of_cell? wr _ c3
    clear hp hx hy hp1 hbx
    go_upto_region 4 with (go_at_call 22; refine (picked _ _ _ (by omega) (by omega) (by omega) (by omega)).mono ?_; rintro e w' ⟨rfl, rfl⟩; first | rw [HP.out] | rw [HXX.out])
    go_wp2_with fail
    have hw4 : ((wr.setCell ⟨T, p, none⟩ (.slice (some ⟨wr.heap.size + 1, 0, none⟩) 1 1)).alloc (.cells #[.int .i64 (x : Int)] 3)).alloc (.cells #[.int .i64 0, .slice (some ⟨wr.heap.size, 0, none⟩) 1 1] 46) =
        ((wr.alloc (.cells #[.int .i64 (x : Int)] 3)).alloc (.cells #[.int .i64 0, .slice (some ⟨wr.heap.size, 0, none⟩) 1 1] 46)).setCell ⟨T, p, none⟩ (.slice (some ⟨wr.heap.size + 1, 0, none⟩) 1 1) := by
      rw [World.setCell_alloc_past _ _ _ _ (by simp; omega), World.setCell_alloc_past _ _ _ _ ltT]
    have M4 := hid (MM.out.fresh hp2 (bnew (bnew (bnil wr) (.cells #[.int .i64 (x : Int)] 3)) (.cells #[.int .i64 0, .slice (some ⟨wr.heap.size, 0, none⟩) 1 1] 46)) ⟨wr.heap.size + 1, rfl, Nat.le_succ _⟩ (crow_one wr (x : Int) BW.out.size))
    have BB := hid (bnew (bnew (bnil wr) (.cells #[.int .i64 (x : Int)] 3)) (.cells #[.int .i64 0, .slice (some ⟨wr.heap.size, 0, none⟩) 1 1] 46))
    have hTT := MM.out.tb.below' BB.out
    have X4 := hid ((HB.out.below' BB.out).far (p := ⟨T, p, none⟩) ((HB.out.below' BB.out).ne_ hTT (by decide)) (.slice (some ⟨wr.heap.size + 1, 0, none⟩) 1 1))
    have W4 := hid (own_chg (own_below HWO.out BB.out) ((Chg.refl (fun k => k = T) _).setCell (p := ⟨T, p, none⟩) (fun _ => rfl) (.slice (some ⟨wr.heap.size + 1, 0, none⟩) 1 1)) fun k hk e2 => own_ne_blk (own_below HWO.out BB.out) hTT (by decide) (by rw [hk, e2]))
    have B4 := hid ((bgo BW.out BB.out).setCell (p := ⟨T, p, none⟩) MM.out.geT (.slice (some ⟨wr.heap.size + 1, 0, none⟩) 1 1))
    rw [hw4]
    generalize World.setCell (World.alloc (World.alloc wr _) _) _ _ = w4 at *
    clear hw4 hTT BB c2 c3 f3 ltT HB HWO MM BW ltX
    have d2 : w4.cell? ⟨X, 2, none⟩ = some (.slice (some ⟨T, 0, none⟩) 2 2) := X4.out.cell 2
    have d3 : ∃ v3, w4.cell? ⟨T, p1, none⟩ = some v3 := ⟨_, by rw [M4.out.tb.cell p1]; exact arrN_at _ hp12⟩
    obtain ⟨v3, d3⟩ := d3
    have g3 : w4.frozen? ⟨T, p1, none⟩ = false := M4.out.tb.frozen p1
    have ltT := World.block_lt_of_cell? w4 _ d3
    have hXT : X ≠ T := X4.out.ne_ M4.out.tb (by decide)
    have ip1 : (p1 : Int) < 2 := by omega
    go_upto_region 5 with fail
    refine wp_region_held_drew (S := (fun w' => w'.cell? ⟨X, 2, none⟩ = some (.slice (some ⟨T, 0, none⟩) 2 2) ∧ w'.frozen? ⟨T, p1, none⟩ = false)) (by kernel_rfl) ?_ (fun hHeld => ?_)
    · (try dsimp only); (first | assumption | exact ⟨d2, g3⟩ | exact sees2s d2 d3 g3 (fun e => hXT e.symm) _ _ _ | (refine sees2f ?_ d2 d3 g3; (repeat (first | exact bnil _ | refine Below.drew ?_ | refine bnew ?_ _))))
    refine wpAnyH_take (i := 0) (oi := ⟨some 32, _, _, _, _, _⟩) (v := ?_) rfl (by kernel_rfl) (by kernel_rfl) (by kernel_rfl) (fun _ _ _ h => h) (Or.inl ⟨by rfl, ?_⟩) (by assumption) ?_
    rotate_left
    · intro w hSw; (try dsimp only at hSw); go_simp <;> with_reducible rfl
    try simp only [Act.put, List.setIfInBounds_toArray, List.set_cons_zero, List.set_cons_succ]
    refine wpAnyH_take (i := 1) (oi := ⟨some 33, _, _, _, _, _⟩) (v := ?_) rfl (by kernel_rfl) (by kernel_rfl) (by kernel_rfl) (fun _ _ _ h => h) (Or.inl ⟨by rfl, ?_⟩) (by assumption) ?_
    rotate_left
    · intro w hSw; (try dsimp only at hSw); go_simp <;> with_reducible rfl
    try simp only [Act.put, List.setIfInBounds_toArray, List.set_cons_zero, List.set_cons_succ]
    refine wpAnyH_take (i := 2) (oi := ⟨some 34, _, _, _, _, _⟩) (v := ?_) rfl (by kernel_rfl) (by kernel_rfl) (by kernel_rfl) (fun _ _ _ h => h) (Or.inl ⟨by rfl, ?_⟩) (by assumption) ?_
    rotate_left
    · intro w hSw; (try dsimp only at hSw); go_simp <;> with_reducible rfl
    try simp only [Act.put, List.setIfInBounds_toArray, List.set_cons_zero, List.set_cons_succ]
    refine wpAnyH_take (i := 3) (oi := ⟨some 35, _, _, _, _, _⟩) (v := ?_) rfl (by kernel_rfl) (by kernel_rfl) (by kernel_rfl) (fun _ _ _ h => h) (Or.inl ⟨by rfl, ?_⟩) (by assumption) ?_
    rotate_left
    · intro w hSw; (try dsimp only at hSw); go_simp <;> with_reducible rfl
    try simp only [Act.put, List.setIfInBounds_toArray, List.set_cons_zero, List.set_cons_succ]
    refine wpAnyH_take (i := 4) (oi := ⟨some 36, _, _, _, _, _⟩) (v := ?_) rfl (by kernel_rfl) (by kernel_rfl) (by kernel_rfl) (fun _ _ _ h => h) (Or.inl ⟨by rfl, ?_⟩) (by assumption) ?_
    rotate_left
    · intro w hSw; (try dsimp only at hSw); go_simp <;> with_reducible rfl
    try simp only [Act.put, List.setIfInBounds_toArray, List.set_cons_zero, List.set_cons_succ]
    refine wpAnyH_ready (rs := [5]) (by kernel_rfl) (by simp) ?_
    refine AllReadyH.cons (o := ⟨some 37, _, _, _, _, _⟩) rfl (fun K hK => ?_) AllReadyH.nil
    go_simp
    refine (picked _ _ _ (by omega) (by omega) (by omega) (by omega)).mono ?_; rintro e w' ⟨rfl, rfl⟩; rw [HYY.out]
    go_wp2_with fail
    refine hK.out _ _ ?_ (fun hHeld => ?_)
    · (try dsimp only); (first | assumption | exact ⟨d2, g3⟩ | exact sees2s d2 d3 g3 (fun e => hXT e.symm) _ _ _ | (refine sees2f ?_ d2 d3 g3; (repeat (first | exact bnil _ | refine Below.drew ?_ | refine bnew ?_ _))))
    clear hK K
    try simp only [Act.put, List.setIfInBounds_toArray, List.set_cons_zero, List.set_cons_succ]
    refine wpAnyH_ready (rs := [6]) (by kernel_rfl) (by simp) ?_
    refine AllReadyH.cons (o := ⟨some 38, _, _, _, _, _⟩) rfl (fun K hK => ?_) AllReadyH.nil
    go_simp
    refine hK.out _ _ ?_ (fun hHeld => ?_)
    · (try dsimp only); (first | assumption | exact ⟨d2, g3⟩ | exact sees2s d2 d3 g3 (fun e => hXT e.symm) _ _ _ | (refine sees2f ?_ d2 d3 g3; (repeat (first | exact bnil _ | refine Below.drew ?_ | refine bnew ?_ _))))
    clear hK K
    try simp only [Act.put, List.setIfInBounds_toArray, List.set_cons_zero, List.set_cons_succ]
    refine wpAnyH_take (i := 7) (oi := ⟨some 39, _, _, _, _, _⟩) (v := ?_) rfl (by kernel_rfl) (by kernel_rfl) (by kernel_rfl) (fun _ _ _ h => h) (Or.inl ⟨by rfl, ?_⟩) (by assumption) ?_
    rotate_left
    · intro w hSw; (try dsimp only at hSw); go_simp <;> with_reducible rfl
    try simp only [Act.put, List.setIfInBounds_toArray, List.set_cons_zero, List.set_cons_succ]
    refine wpAnyH_ready (rs := [8]) (by kernel_rfl) (by simp) ?_
    refine AllReadyH.cons (o := ⟨some 40, _, _, _, _, _⟩) rfl (fun K hK => ?_) AllReadyH.nil
    go_simp
    refine hK.out _ _ ?_ (fun hHeld => ?_)
    · (try dsimp only); (first | assumption | exact ⟨d2, g3⟩ | exact sees2s d2 d3 g3 (fun e => hXT e.symm) _ _ _ | (refine sees2f ?_ d2 d3 g3; (repeat (first | exact bnil _ | refine Below.drew ?_ | refine bnew ?_ _))))
    clear hK K
    try simp only [Act.put, List.setIfInBounds_toArray, List.set_cons_zero, List.set_cons_succ]
    refine wpAnyH_take (i := 9) (oi := ⟨some 41, _, _, _, _, _⟩) (v := ?_) rfl (by kernel_rfl) (by kernel_rfl) (by kernel_rfl) (fun _ _ _ h => h) (Or.inl ⟨by rfl, ?_⟩) (by assumption) ?_
    rotate_left
    · intro w hSw; (try dsimp only at hSw); go_simp <;> with_reducible rfl
    try simp only [Act.put, List.setIfInBounds_toArray, List.set_cons_zero, List.set_cons_succ]
    refine wpAnyH_ready (rs := [10]) (by kernel_rfl) (by simp) ?_
    refine AllReadyH.cons (o := ⟨none, _, _, _, _, _⟩) rfl (fun K hK => ?_) AllReadyH.nil
    go_simp
    refine hK.out _ _ ?_ (fun hHeld => ?_)
    · (try dsimp only); (first | assumption | exact ⟨d2, g3⟩ | exact sees2s d2 d3 g3 (fun e => hXT e.symm) _ _ _ | (refine sees2f ?_ d2 d3 g3; (repeat (first | exact bnil _ | refine Below.drew ?_ | refine bnew ?_ _))))
    clear hK K
    try dsimp only [Act.put]
    refine wpAnyH_done (by kernel_rfl) ?_ _
    rotate_left
    rotate_right
    have hw5 : ((((w4.setCell ⟨T, p1, none⟩ (.slice (some ⟨w4.heap.size + 1, 0, none⟩) 1 1)).alloc (.cells #[.int .i64 (y : Int)] 3)).alloc (.cells #[.int .i64 0, .slice (some ⟨w4.heap.size, 0, none⟩) 1 1] 46))).drew =
        (((w4.alloc (.cells #[.int .i64 (y : Int)] 3)).alloc (.cells #[.int .i64 0, .slice (some ⟨w4.heap.size, 0, none⟩) 1 1] 46)).setCell ⟨T, p1, none⟩ (.slice (some ⟨w4.heap.size + 1, 0, none⟩) 1 1)).drew := by
      rw [World.setCell_alloc_past _ _ _ _ (by simp; omega), World.setCell_alloc_past _ _ _ _ ltT]
    have hd := (bnil (((w4.alloc (.cells #[.int .i64 (y : Int)] 3)).alloc (.cells #[.int .i64 0, .slice (some ⟨w4.heap.size, 0, none⟩) 1 1] 46)).setCell ⟨T, p1, none⟩ (.slice (some ⟨w4.heap.size + 1, 0, none⟩) 1 1))).drew
    have BB := hid (bnew (bnew (bnil w4) (.cells #[.int .i64 (y : Int)] 3)) (.cells #[.int .i64 0, .slice (some ⟨w4.heap.size, 0, none⟩) 1 1] 46))
    have M5 := hid ((M4.out.fresh hp12 BB.out ⟨w4.heap.size + 1, rfl, Nat.le_succ _⟩ (crow_one w4 (y : Int) B4.out.size)).below hd)
    have hTT := M4.out.tb.below' BB.out
    have X5 := hid (((X4.out.below' BB.out).far (p := ⟨T, p1, none⟩) ((X4.out.below' BB.out).ne_ hTT (by decide)) (.slice (some ⟨w4.heap.size + 1, 0, none⟩) 1 1)).below' hd)
    have W5 := hid (own_below (own_chg (own_below W4.out BB.out) ((Chg.refl (fun k => k = T) _).setCell (p := ⟨T, p1, none⟩) (fun _ => rfl) (.slice (some ⟨w4.heap.size + 1, 0, none⟩) 1 1)) fun k hk e2 => own_ne_blk (own_below W4.out BB.out) hTT (by decide) (by rw [hk, e2])) hd)
    have B5 := hid (bgo ((bgo B4.out BB.out).setCell (p := ⟨T, p1, none⟩) M4.out.geT (.slice (some ⟨w4.heap.size + 1, 0, none⟩) 1 1)) hd)
    clear hd
    rw [hw5]
    generalize World.drew (World.setCell (World.alloc (World.alloc w4 _) _) _ _) = w5 at *
    clear hw5 hTT BB d2 d3 g3 ltT X4 M4 W4 B4
    have M5 := hid (show MN w.heap.size w5 1 2 Cb T (fun i => [x16].getD i undef) (fun i => [consCode].getD i []) _ (upd (upd (fun _ => []) p [⟨0, [(x : Int)]⟩]) (1 - p) [⟨0, [(y : Int)]⟩]) _ from by rw [HP1.out]; exact M5.out)
    go_wp2
    go_loopw [10, 11] (fun v i wr => ∃ (k : Nat) (A1 : Option Addr) (c1 : Nat), k ≤ 120 ∧ i = .int .i64 k ∧ v = .slice A1 k c1 ∧ Hid (Ow w5 wr 3 1 gI (.slice A1 k c1) (nats (consS p k)))) (fun _ i _ => 120 - (intOf i).toNat)
    case atStart => exact ⟨0, none, 0, Nat.zero_le _, rfl, rfl, hid (Ow.nil _ _ _ _)⟩
    case round =>
      obtain ⟨k, A1, c1, hk, rfl, rfl, HO⟩ := hrel
      by_cases h1 : k < 120
      · have i1 : (k : Int) < 120 := by omega
        obtain ⟨r, hr⟩ : ∃ r, (if k < 60 then p else p1) = r := ⟨_, rfl⟩
        obtain ⟨ys, hys⟩ : ∃ ys, nats (consS p k) ++ [(r : Int)] = ys := ⟨_, rfl⟩
        have HYE := hid (show ys = nats (consS p (k + 1)) by rw [← hys, consS_next, ← hr, HP1.out]; unfold nats; rw [List.map_append]; rfl)
        have HY := hid hys
        have HYN := hid (show ys.length = k + 1 by rw [HYE.out]; unfold nats; rw [List.length_map, consS_len])
        clear hys
        by_cases h60 : k < 60
        all_goals
          first
            | (rw [if_pos h60] at hr; have i60 : ¬ (60 : Int) ≤ (k : Int) := by omega)
            | (rw [if_neg h60] at hr; have i60 : (60 : Int) ≤ (k : Int) := by omega)
          subst hr
          go_wp2_with (at_builtin; refine wpList_appY elmI gI_one rfl (.tmp 51) (.tmp 53) rfl (.slice A1 k c1) _ rfl (HO.out.alloc _) [(_ : Int)] ys HY rfl (Sl.fresh wr #[_] 3 1 1 rfl) (by go_num) (by rw [HYN.out]; simp only [maxLen]; omega) (by rw [HYN.out]; omega) ?_; intro A4 c4 w7 hc4 hc5 HN1 _ _)
          go_roundw
          case rel => exact ⟨k + 1, A4, c4, by omega, by go_num, by rw [HYN.out], hid (by have h1 := HN1.out; rw [HYN.out] at h1; rw [← HYE.out]; exact h1)⟩
          case measure => simp [intOf]; omega
      · obtain rfl : k = 120 := by omega
        have i1 : ¬ (((120 : Nat) : Int)) < 120 := by omega
        have HM := hid (show MachAt wr (some ⟨Cb, 0, none⟩) 1 (some ⟨T, 0, none⟩) 2 (consMF p (x : Int) (y : Int)) from (M5.out.below HO.out.below).at_ rfl rfl
          (fun i hi => by obtain rfl : i = 0 := by omega
                          exact ⟨by decide, cons_sh⟩)
          (fun j hj => by
            unfold upd
            split
            · exact ⟨by simp, fun c hc => by rw [List.mem_singleton.1 hc]; exact ⟨by simp, by simp⟩⟩
            · split
              · exact ⟨by simp, fun c hc => by rw [List.mem_singleton.1 hc]; exact ⟨by simp, by simp⟩⟩
              · exact ⟨by simp, fun c hc => by cases hc⟩))
        obtain ⟨Al, cl, e, hcl, hcl2⟩ := HO.out.form
        injection e with e1 e2 e3
        subst e1 e3
        clear e2
        rw [show (nats (consS p 120)).length = 120 by simp [nats, consS_len]] at hcl
        have x0 : wr.cell? ⟨X, 0, none⟩ = some (.slice AW 1 cW) := (X5.out.below' HO.out.below).cell 0
        have x1 : wr.cell? ⟨X, 1, none⟩ = some (.slice (some ⟨Cb, 0, none⟩) 1 1) := (X5.out.below' HO.out.below).cell 1
        have x2 : wr.cell? ⟨X, 2, none⟩ = some (.slice (some ⟨T, 0, none⟩) 2 2) := (X5.out.below' HO.out.below).cell 2
        have HWB := hid (own_below W5.out HO.out.below)
        have B2 := hid (bgo B5.out HO.out.below)
        have HT2 := hid (HT.out.below B2.out)
        have HSL := hid (show Sl wr 1 A1 120 (ints ((consS p 120).map fun x : Nat => (x : Int))) by have h := HO.out.sl; first | exact h | (rw [show (nats (consS p 120)).length = 120 by simp [nats, consS_len]] at h; exact h))
        clear HO M5 W5 X5 B5
        go_wp2_with fail
        refine (ran_of AW (some ⟨Cb, 0, none⟩) (some ⟨T, 0, none⟩) A1 1 cW 1 1 2 2 120 c1 (consMF p (x : Int) (y : Int)) (consS p 120) wr (by decide) (by decide) (by decide) (by decide) hcl HT2.out HM.out (Sl.own HWB.out) HSL.out (consS_lt hp2 120) (cons_play (consMF_ok hp2 x y) _).2 (play_fin _ _)).mono ?_
        rintro e w3 hp3
        obtain ⟨v3, rs, rfl, hrow, hrs, htold, b3⟩ := hp3
        obtain ⟨d0, d1, hds, ht0, ht1⟩ := cons_run hp2 x y
        rw [hds] at hrs
        obtain ⟨A3, c3, rfl, hc3, hc3'⟩ := own_form hrow
        have hLD : rs.length = 2 := by have := congrArg List.length hrs; rw [List.length_map] at this; exact this
        rw [hLD] at hrow hc3 ⊢
        have HD := hid (DsAt.mk hLD hrow htold)
        have B3 := hid b3
        clear hrow htold b3 hLD hds
        obtain ⟨b9, d, At, ct, rfl, hd, lt9, u0, u1, u2, u3, u4, ut⟩ := HD.out.at_ (show 0 < 2 by decide)
        rw [hrs] at hd
        injection hd with hd; subst hd
        obtain ⟨b10, d, At1, ct1, e, hd, lt10, z0, z1, z2, z3, z4, zt⟩ := HD.out.at_ (show 1 < 2 by decide)
        rw [hrs] at hd
        injection hd with hd; subst hd
        injection e with e; injection e with e _ _
        subst e
        have s0 := Sl.own ut
        have s1 := Sl.own zt
        rw [ht0] at s0
        rw [ht1] at s1
        have l0 : d0.told.length = 1 := by rw [ht0]; rfl
        have l1 : d1.told.length = 1 := by rw [ht1]; rfl
        rw [l0] at u4
        rw [l1] at z4
        have S0 := hid s0; have S1 := hid s1
        have u4 : w3.cell? ⟨b9, 4, none⟩ = some (.slice At 1 ct) := by simpa using u4
        have z4 : w3.cell? ⟨b9, 9, none⟩ = some (.slice At1 1 ct1) := z4
        clear s0 s1 ut zt ht0 ht1 l0 l1 u0 u1 u2 u3 z0 z1 z2 z3 hrs
        go_wp2_with fail
        refine (same_ints At _ 1 ct 1 [(x : Int)] _ (by decide) (S0.out.below (bnew (bnil _) _)) (Sl.fresh _ #[_] 3 1 1 rfl)).mono ?_
        rintro e5 w5 ⟨rfl, b5⟩
        have S1' := hid (S1.out.below (bgo (bnew (bnil _) _) b5))
        have z4 : w5.cell? ⟨b9, 9, none⟩ = some (.slice At1 1 ct1) := cell_below (bgo (bnew (bnil _) _) b5) z4
        have B5 := hid (bgo (bgo B2.out B3.out) (bgo (bnew (bnil _) _) b5))
        clear b5 u4 S0 S1
        go_wp2_with fail
        refine (same_ints At1 _ 1 ct1 1 [(x : Int)] _ (by decide) (S1'.out.below (bnew (bnil _) _)) (Sl.fresh _ #[_] 3 1 1 rfl)).mono ?_
        rintro e6 w6 ⟨rfl, b6⟩
        go_wp2_with fail
        go_ret
        exact ⟨rfl, bgo B5.out (bgo (bnew (bnil _) _) b6)⟩
end Go.Proofs.YtnoinojhocicjaaDoor
