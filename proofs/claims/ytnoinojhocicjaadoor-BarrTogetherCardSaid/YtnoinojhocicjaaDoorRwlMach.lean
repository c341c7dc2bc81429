/-
  barographkeep.rwlMachine: its walk. Written by gen_rwlm.py.
-/
import Derived.Test.YtnoinojhocicjaaDoorRounds
import Derived.Test.YtnoinojhocicjaaDoorRwlLaw
namespace Go.Proofs.YtnoinojhocicjaaDoor
open Go.RowKit
set_option linter.unusedVariables false

theorem rwl_words (w : World) : Calls Tryd.prog 49 #[] w fun e w' => ∃ v, e = .returned v ∧ Ow w w' 3 1 gI v [0] := by
  go_enter Tryd.func49, Tryd.ntmps49
  go_wp2
  go_ret
  exact ⟨_, rfl, ⟨⟨rfl, .inr ⟨w.heap.size, 1, #[.int .i64 0], rfl, Nat.le_refl _, Blk.new w _ _, Nat.le_refl _, by simp [maxLen], rfl, rfl⟩⟩, bnew (bnil w) _⟩⟩
structure RwlR (w0 : World) (work : Nat) (L : Nat → Bool) (x12 x13 x14 x15 x16 x17 x18 x19 x20 x21 x6 : Value) (w : World) : Prop where
  b : Below w0.heap.size w0 w
  f0 : L 0 = true → w.ownsRow w0.heap.size 3 1 x12 1 (([0] : List Int).flatMap gI)
  f1 : L 1 = true → w.ownsRow w0.heap.size 81 5 x13 (readInCode).length ((readInCode).flatMap gO)
  f2 : L 2 = true → w.ownsRow w0.heap.size 81 5 x14 (readOutCode).length ((readOutCode).flatMap gO)
  f3 : L 3 = true → w.ownsRow w0.heap.size 81 5 x15 (writeInCode).length ((writeInCode).flatMap gO)
  f4 : L 4 = true → w.ownsRow w0.heap.size 81 5 x16 (writeOutCode).length ((writeOutCode).flatMap gO)
  f5 : L 5 = true → x17 = .int .i64 (work : Int)
  f6 : L 6 = true → ∃ b, x18 = .slice (some ⟨b, 0, none⟩) work work ∧ w0.heap.size ≤ b ∧ Blk w b 81 (((List.replicate work (⟨0, 0, 0, 0, 0⟩ : Op5)).flatMap gO).toArray)
  f7 : L 7 = true → ∃ b, x19 = .slice (some ⟨b, 0, none⟩) 5 5 ∧ w0.heap.size ≤ b ∧ Blk w b 33 #[x13, x14, x15, x16, x18]
  f8 : L 8 = true → ∃ b, x20 = .slice (some ⟨b, 0, none⟩) 4 4 ∧ w0.heap.size ≤ b ∧ Blk w b 44 #[.slice none 0 0, .slice none 0 0, .slice none 0 0, .slice none 0 0]
  f9 : L 9 = true → x21 = .agg #[x12, x19, x20]
  f10 : L 10 = true → L 11 = false → ∃ b, x6 = .pointer (some ⟨b, 0, none⟩) ∧ w0.heap.size ≤ b ∧ Blk w b 27 #[.slice none 0 0, .slice none 0 0, .slice none 0 0]
  f11 : L 11 = true → ∃ b, x6 = .pointer (some ⟨b, 0, none⟩) ∧ w0.heap.size ≤ b ∧ Blk w b 27 #[x12, x19, x20]
  g1 : L 1 = true → L 6 = true → Apt x13 x18
  g2 : L 2 = true → L 6 = true → Apt x14 x18
  g3 : L 3 = true → L 6 = true → Apt x15 x18
  g4 : L 4 = true → L 6 = true → Apt x16 x18
section
variable {w0 : World} {work : Nat} {L : Nat → Bool} {x12 x13 x14 x15 x16 x17 x18 x19 x20 x21 x6 : Value} {w w' : World}
theorem RwlR.below (h : RwlR w0 work L x12 x13 x14 x15 x16 x17 x18 x19 x20 x21 x6 w) (hb : Below w.heap.size w w') : RwlR w0 work L x12 x13 x14 x15 x16 x17 x18 x19 x20 x21 x6 w' where
  b := bgo h.b hb
  f0 := fun e => own_below (h.f0 e) hb
  f1 := fun e => own_below (h.f1 e) hb
  f2 := fun e => own_below (h.f2 e) hb
  f3 := fun e => own_below (h.f3 e) hb
  f4 := fun e => own_below (h.f4 e) hb
  f5 := h.f5
  f6 := fun e => by obtain ⟨b, h1, h2, h3⟩ := h.f6 e; exact ⟨b, h1, h2, h3.below' hb⟩
  f7 := fun e => by obtain ⟨b, h1, h2, h3⟩ := h.f7 e; exact ⟨b, h1, h2, h3.below' hb⟩
  f8 := fun e => by obtain ⟨b, h1, h2, h3⟩ := h.f8 e; exact ⟨b, h1, h2, h3.below' hb⟩
  f9 := h.f9
  f10 := fun e e' => by obtain ⟨b, h1, h2, h3⟩ := h.f10 e e'; exact ⟨b, h1, h2, h3.below' hb⟩
  f11 := fun e => by obtain ⟨b, h1, h2, h3⟩ := h.f11 e; exact ⟨b, h1, h2, h3.below' hb⟩
  g1 := h.g1
  g2 := h.g2
  g3 := h.g3
  g4 := h.g4
theorem RwlR.store {X : Nat} {L' : Nat → Bool} (h : RwlR w0 work L x12 x13 x14 x15 x16 x17 x18 x19 x20 x21 (.pointer (some ⟨X, 0, none⟩)) w) (hX : w0.heap.size ≤ X) (hb : Blk w X 27 #[.slice none 0 0, .slice none 0 0, .slice none 0 0]) (hL : ∀ i, i ≠ 11 → L' i = L i) (h9 : L' 11 = true) : RwlR w0 work L' x12 x13 x14 x15 x16 x17 x18 x19 x20 x21 (.pointer (some ⟨X, 0, none⟩)) (((w.setCell ⟨X, 0, none⟩ x12).setCell ⟨X, 1, none⟩ x19).setCell ⟨X, 2, none⟩ x20) := by
  have hC : Chg (fun k => k = X) w (((w.setCell ⟨X, 0, none⟩ x12).setCell ⟨X, 1, none⟩ x19).setCell ⟨X, 2, none⟩ x20) :=
    (((Chg.refl (fun k => k = X) w).setCell (p := ⟨X, 0, none⟩) (fun _ => rfl) _).setCell (p := ⟨X, 1, none⟩) (fun _ => rfl) _).setCell (p := ⟨X, 2, none⟩) (fun _ => rfl) _
  have bk : ∀ {g t : Nat} {cs : Array Value}, t ≠ 27 → Blk w g t cs → Blk (((w.setCell ⟨X, 0, none⟩ x12).setCell ⟨X, 1, none⟩ x19).setCell ⟨X, 2, none⟩ x20) g t cs := fun h1 h2 => hC.blk h2 fun e => by subst e; exact h1 (blk_ty h2 hb)
  have ok : ∀ {B e sz : Nat} {v' : Value} {n : Nat} {xs : List Value}, e ≠ 27 → w.ownsRow B e sz v' n xs → (((w.setCell ⟨X, 0, none⟩ x12).setCell ⟨X, 1, none⟩ x19).setCell ⟨X, 2, none⟩ x20).ownsRow B e sz v' n xs := fun h1 h2 => own_chg h2 hC fun k hk e => own_ne_blk h2 hb h1 (by rw [hk, e])
  have e0 := hL 0 (by decide)
  have e1 := hL 1 (by decide)
  have e2 := hL 2 (by decide)
  have e3 := hL 3 (by decide)
  have e4 := hL 4 (by decide)
  have e5 := hL 5 (by decide)
  have e6 := hL 6 (by decide)
  have e7 := hL 7 (by decide)
  have e8 := hL 8 (by decide)
  have e9 := hL 9 (by decide)
  refine ⟨((h.b.setCell (p := ⟨X, 0, none⟩) hX _).setCell (p := ⟨X, 1, none⟩) hX _).setCell (p := ⟨X, 2, none⟩) hX _, ?_, ?_, ?_, ?_, ?_, ?_, ?_, ?_, ?_, ?_, ?_, ?_, ?_, ?_, ?_, ?_⟩
  · rw [e0]; intro e; exact ok (by decide) (h.f0 e)
  · rw [e1]; intro e; exact ok (by decide) (h.f1 e)
  · rw [e2]; intro e; exact ok (by decide) (h.f2 e)
  · rw [e3]; intro e; exact ok (by decide) (h.f3 e)
  · rw [e4]; intro e; exact ok (by decide) (h.f4 e)
  · rw [e5]; exact h.f5
  · rw [e6]; intro e; obtain ⟨b, h1, h2, h3⟩ := h.f6 e; exact ⟨b, h1, h2, bk (by decide) h3⟩
  · rw [e7]; intro e; obtain ⟨b, h1, h2, h3⟩ := h.f7 e; exact ⟨b, h1, h2, bk (by decide) h3⟩
  · rw [e8]; intro e; obtain ⟨b, h1, h2, h3⟩ := h.f8 e; exact ⟨b, h1, h2, bk (by decide) h3⟩
  · rw [e9]; exact h.f9
  · intro _ e; rw [h9] at e; cases e
  · intro _; exact ⟨X, rfl, hX, ((hb.set_ 0 _).set_ 1 _).set_ 2 _⟩
  · rw [e1, e6]; exact h.g1
  · rw [e2, e6]; exact h.g2
  · rw [e3, e6]; exact h.g3
  · rw [e4, e6]; exact h.g4
end
/-- the calls of thread j, when i rounds have been dealt out -/
def wths (kd : Nat → Nat → Bool) (i j : Nat) : List VCall := wrows kd j ((i + 3 - j) / 4)
theorem wths_zero (kd : Nat → Nat → Bool) {j : Nat} (hj : j < 4) : wths kd 0 j = [] := by
  unfold wths
  rw [show (0 + 3 - j) / 4 = 0 by omega]; rfl
theorem wths_next (kd : Nat → Nat → Bool) (i : Nat) : ∀ j, j < 4 → upd (wths kd i) (i % 4) (wths kd i (i % 4) ++ wround (kd (i % 4) (i / 4))) j = wths kd (i + 1) j := by
  intro j hj
  unfold upd
  by_cases e : j = i % 4
  · rw [if_pos e]
    subst e
    unfold wths
    rw [show (i + 3 - i % 4) / 4 = i / 4 by omega, show (i + 1 + 3 - i % 4) / 4 = i / 4 + 1 by omega]
    rfl
  · rw [if_neg e]
    unfold wths
    rw [show (i + 3 - j) / 4 = (i + 1 + 3 - j) / 4 by omega]
theorem wths_len (kd : Nat → Nat → Bool) {i j : Nat} (hi : i ≤ 24) : (wths kd i j).length ≤ 18 := by
  unfold wths
  rw [wrows_len]; omega
theorem wths_all (kd : Nat → Nat → Bool) {j : Nat} (hj : j < 4) : wths kd 24 j = wrows kd j 6 := by
  unfold wths
  rw [show (24 + 3 - j) / 4 = 6 by omega]
theorem wrows_mem (kd : Nat → Nat → Bool) (n : Nat) : ∀ (r : Nat) (c : VCall), c ∈ wrows kd n r → c.code < 5 ∧ c.args.length ≤ 8
  | 0, c, h => by cases h
  | r + 1, c, h => by
    rcases List.mem_append.1 h with h | h
    · exact wrows_mem kd n r c h
    · unfold wround at h
      simp at h
      rcases h with rfl | rfl | rfl
      · cases kd n r <;> decide
      · decide
      · cases kd n r <;> decide
theorem MN.threads {B : Nat} {w : World} {nc nt Cb T : Nat} {cv : Nat → Value} {ks : Nat → List Op5} {tv : Nat → Value} {th th' : Nat → List VCall} {av : Nat → List SV} (h : MN B w nc nt Cb T cv ks tv th av) (he : ∀ j, j < nt → th j = th' j) : MN B w nc nt Cb T cv ks tv th' av :=
  ⟨h.geC, h.geT, h.cb, h.tb, h.os, fun j hj => by rw [← he j hj]; exact h.rows j hj, h.dist⟩
theorem MBun.threads {W0 w : World} {g0 : Nat} {cs0 : Array Value} {R X Cb T nc nt : Nat} {Wv : Value} {ws : List Int} {cv : Nat → Value} {ks : Nat → List Op5} {tv : Nat → Value} {th th' : Nat → List VCall} {av : Nat → List SV} (h : MBun W0 w g0 cs0 R X Cb T nc nt Wv ws cv ks tv th av) (he : ∀ j, j < nt → th j = th' j) : MBun W0 w g0 cs0 R X Cb T nc nt Wv ws cv ks tv th' av :=
  ⟨h.below, h.hg, h.hr, h.hx, h.own, h.mn.threads he⟩
theorem getD5 {α : Type} (a b c d e x y : α) : upd (fun i => [a, b, c, d, e].getD i x) 4 y = fun i => [a, b, c, d, y].getD i x := by
  funext j
  unfold upd
  by_cases h : j = 4
  · subst h; rfl
  · rw [if_neg h]
    match j, h with
    | 0, _ => rfl
    | 1, _ => rfl
    | 2, _ => rfl
    | 3, _ => rfl
    | j + 5, _ => rfl
theorem rwl_shs : (∀ o ∈ readInCode, OpSh readInCode.length o) ∧ (∀ o ∈ readOutCode, OpSh readOutCode.length o) ∧ (∀ o ∈ writeInCode, OpSh writeInCode.length o) ∧ (∀ o ∈ writeOutCode, OpSh writeOutCode.length o) := by
  refine ⟨fun o ho => ?_, fun o ho => ?_, fun o ho => ?_, fun o ho => ?_⟩
  · simp only [readInCode, List.mem_cons, List.not_mem_nil, or_false] at ho
    rcases ho with rfl | rfl | rfl | rfl | rfl | rfl | rfl <;> exact ⟨by decide, by decide, by decide, by decide, by decide⟩
  · simp only [readOutCode, List.mem_cons, List.not_mem_nil, or_false] at ho
    rcases ho with rfl | rfl | rfl | rfl | rfl <;> exact ⟨by decide, by decide, by decide, by decide, by decide⟩
  · simp only [writeInCode, List.mem_cons, List.not_mem_nil, or_false] at ho
    rcases ho with rfl | rfl | rfl | rfl | rfl | rfl <;> exact ⟨by decide, by decide, by decide, by decide, by decide⟩
  · simp only [writeOutCode, List.mem_cons, List.not_mem_nil, or_false] at ho
    subst ho
    exact ⟨by decide, by decide, by decide, by decide, by decide⟩
theorem rwl_at {B : Nat} {w : World} {Cb T : Nat} {cv tv : Nat → Value} {av : Nat → List SV} {th : Nat → List VCall} {work : Nat} {kd : Nat → Nat → Bool} (h : MN B w 5 4 Cb T cv (fun i => [readInCode, readOutCode, writeInCode, writeOutCode, lops work work].getD i []) tv th av) (hw : work ≤ 200) {m : Mach} (hm : m.codes = [readInCode, readOutCode, writeInCode, writeOutCode, lops work work]) (hmt : m.threads = (List.range 4).map th) (ht : ∀ j, j < 4 → (th j).length ≤ 20 ∧ ∀ c ∈ th j, c.code < 5 ∧ c.args.length ≤ 8) :
    MachAt w (some ⟨Cb, 0, none⟩) 5 (some ⟨T, 0, none⟩) 4 m := by
  refine h.at_ (by rw [hm]; rfl) hmt (fun i hi => ?_) ht
  obtain ⟨s1, s2, s3, s4⟩ := rwl_shs
  rcases (show i = 0 ∨ i = 1 ∨ i = 2 ∨ i = 3 ∨ i = 4 by omega) with rfl | rfl | rfl | rfl | rfl
  · exact ⟨by show readInCode.length ≤ 200; decide, s1⟩
  · exact ⟨by show readOutCode.length ≤ 200; decide, s2⟩
  · exact ⟨by show writeInCode.length ≤ 200; decide, s3⟩
  · exact ⟨by show writeOutCode.length ≤ 200; decide, s4⟩
  · exact ⟨by show (lops work work).length ≤ 200; rw [lops_len (Nat.le_refl _)]; exact hw, lops_sh work⟩
theorem three_own {B : Nat} {w : World} (kb : Bool) : ∀ (k : Nat) (c : VCall) (a : SV), (wround kb)[k]? = some c → ([⟨none, 0, 0⟩, ⟨none, 0, 0⟩, ⟨none, 0, 0⟩] : List SV)[k]? = some a → w.ownsRow B 3 1 a.v c.args.length (c.args.flatMap gI) := by
  intro k c a hc ha
  unfold wround at hc
  match k, hc, ha with
  | 0, hc, ha => injection hc with hc; injection ha with ha; subst hc ha; exact own0 w B _ 1
  | 1, hc, ha => injection hc with hc; injection ha with ha; subst hc ha; exact own0 w B _ 1
  | 2, hc, ha => injection hc with hc; injection ha with ha; subst hc ha; exact own0 w B _ 1
  | k + 3, hc, ha => simp at hc
/-- which rounds write -/
def kdOf (l : List Bool) (n r : Nat) : Bool := l.getD (4 * r + n) false
theorem kdOf_at (l : List Bool) (i : Nat) : kdOf l (i % 4) (i / 4) = l.getD i false := by
  unfold kdOf
  rw [show 4 * (i / 4) + i % 4 = i by omega]
def RwlPost (w : World) (kd : Nat → Nat → Bool) (work : Nat) (e : Ending) (w' : World) : Prop :=
  ∃ (AW : Option Addr) (cW Cb T : Nat) (cv tv : Nat → Value) (av : Nat → List SV), e = .returned (.tuple #[.agg #[.slice AW 1 cW, .slice (some ⟨Cb, 0, none⟩) 5 5, .slice (some ⟨T, 0, none⟩) 4 4], .bool true]) ∧
    w'.ownsRow w.heap.size 3 1 (.slice AW 1 cW) 1 (([0] : List Int).flatMap gI) ∧ MN w.heap.size w' 5 4 Cb T cv (fun i => [readInCode, readOutCode, writeInCode, writeOutCode, lops work work].getD i []) tv (fun j => wrows kd j 6) av ∧ Below w.heap.size w w'
set_option maxHeartbeats 8000000 in
set_option maxRecDepth 100000 in
theorem rwl_machine (Ak : Option Addr) (nk ck : Nat) (ks : List Bool) (work : Nat) (w : World) (hnk : nk ≤ 9223372036854775807) (hks : Sl w 1 Ak nk (ks.flatMap fun b : Bool => [Value.bool b])) (hw1 : 1 ≤ work) (hwork4 : work ≤ 40) (hT : STab w) :
    Calls Tryd.prog 28 #[.slice Ak nk ck, .int .i64 (work : Int)] w fun e w' => RwlPost w (kdOf ks) work e w' := by
  have HK := hid hks; have HT := hid hT
  clear hks hT
  have hwork : work ≤ 1000 := by omega
  go_enter Tryd.func28, Tryd.ntmps28
  go_upto_region 1 with fail
  obtain ⟨w0, hw0⟩ : ∃ w0, w.alloc (.cells #[.slice none 0 0, .slice none 0 0, .slice none 0 0] 27) = w0 := ⟨_, rfl⟩
  rw [hw0]
  have B0 := hid (show Below w.heap.size w w0 by rw [← hw0]; exact bnew (bnil w) _)
  have RB := hid (show Blk w0 w.heap.size 27 nil3 by rw [← hw0]; exact Blk.new w _ _)
  clear hw0
  have B00 := B0.out.size
  refine wp_region_inv (by kernel_rfl) (fun a0 L a wr => ∃ x12 x13 x14 x15 x16 x17 x18 x19 x20 x21 x6, a = (((((((((((a0.put (some 12) x12).put (some 13) x13).put (some 14) x14).put (some 15) x15).put (some 16) x16).put (some 17) x17).put (some 18) x18).put (some 19) x19).put (some 20) x20).put (some 21) x21).put (some 6) x6) ∧ RwlR w0 work L x12 x13 x14 x15 x16 x17 x18 x19 x20 x21 x6 wr) (by kernel_rfl) ?_ ?_ ?_
  · exact ⟨undef, undef, undef, undef, undef, undef, undef, undef, undef, undef, undef, by kernel_rfl, ⟨(bnil w0).drew, (fun h => by cases h), (fun h => by cases h), (fun h => by cases h), (fun h => by cases h), (fun h => by cases h), (fun h => by cases h), (fun h => by cases h), (fun h => by cases h), (fun h => by cases h), (fun h => by cases h), (fun h => by cases h), (fun h => by cases h), (fun h => by cases h), (fun h => by cases h), (fun h => by cases h), (fun h => by cases h)⟩⟩
  · intro j hj L b wr hR hLj hcl hpre
    obtain ⟨x12, x13, x14, x15, x16, x17, x18, x19, x20, x21, x6, rfl, H⟩ := hR
    have hj' : j = 0 ∨ j = 1 ∨ j = 2 ∨ j = 3 ∨ j = 4 ∨ j = 5 ∨ j = 6 ∨ j = 7 ∨ j = 8 ∨ j = 9 ∨ j = 10 ∨ j = 11 := by
      have : j < 12 := hj
      omega
    have lt0 := H.b.size
    rcases hj' with rfl | rfl | rfl | rfl | rfl | rfl | rfl | rfl | rfl | rfl | rfl | rfl
    · have n9 : L 9 ≠ true := fun e => by have := hcl 9 0 (by kernel_rfl) e; rw [hLj] at this; cases this
      have n11 : L 11 ≠ true := fun e => n9 (hcl 11 9 (by kernel_rfl) e)
      clear hcl hpre
      refine wpOp_at rfl rfl fun K hK => ?_
      go_simp
      refine (rwl_words wr).mono ?_
      rintro e w1 ⟨v, rfl, ho⟩
      have Hb := H.below ho.below
      exact hK _ _ ⟨v, x13, x14, x15, x16, x17, x18, x19, x20, x21, x6, by kernel_rfl, ⟨Hb.b, fun _ => own_lower ho.own lt0, Hb.f1, Hb.f2, Hb.f3, Hb.f4, Hb.f5, Hb.f6, Hb.f7, Hb.f8, fun e => absurd e n9, Hb.f10, fun e => absurd e n11, Hb.g1, Hb.g2, Hb.g3, Hb.g4⟩⟩
    · have n7 : L 7 ≠ true := fun e => by have := hcl 7 1 (by kernel_rfl) e; rw [hLj] at this; cases this
      clear hcl hpre
      refine wpOp_at rfl rfl fun K hK => ?_
      go_simp
      refine (rwl_readIn wr).mono ?_
      rintro e w1 ⟨v, rfl, ho⟩
      have Hb := H.below ho.below
      exact hK _ _ ⟨x12, v, x14, x15, x16, x17, x18, x19, x20, x21, x6, by kernel_rfl, ⟨Hb.b, Hb.f0, fun _ => own_lower ho.own lt0, Hb.f2, Hb.f3, Hb.f4, Hb.f5, Hb.f6, fun e => absurd e n7, Hb.f8, Hb.f9, Hb.f10, Hb.f11, fun _ e6 => by obtain ⟨b6, e61, _, e62⟩ := H.f6 e6; subst e61; intro k hk hk2; injection hk2 with hk2; subst hk2; have h1 : wr.heap.size ≤ b6 := (own_ge ho.own _ hk).1; have h2 := e62.lt; omega, Hb.g2, Hb.g3, Hb.g4⟩⟩
    · have n7 : L 7 ≠ true := fun e => by have := hcl 7 2 (by kernel_rfl) e; rw [hLj] at this; cases this
      clear hcl hpre
      refine wpOp_at rfl rfl fun K hK => ?_
      go_simp
      refine (rwl_readOut wr).mono ?_
      rintro e w1 ⟨v, rfl, ho⟩
      have Hb := H.below ho.below
      exact hK _ _ ⟨x12, x13, v, x15, x16, x17, x18, x19, x20, x21, x6, by kernel_rfl, ⟨Hb.b, Hb.f0, Hb.f1, fun _ => own_lower ho.own lt0, Hb.f3, Hb.f4, Hb.f5, Hb.f6, fun e => absurd e n7, Hb.f8, Hb.f9, Hb.f10, Hb.f11, Hb.g1, fun _ e6 => by obtain ⟨b6, e61, _, e62⟩ := H.f6 e6; subst e61; intro k hk hk2; injection hk2 with hk2; subst hk2; have h1 : wr.heap.size ≤ b6 := (own_ge ho.own _ hk).1; have h2 := e62.lt; omega, Hb.g3, Hb.g4⟩⟩
    · have n7 : L 7 ≠ true := fun e => by have := hcl 7 3 (by kernel_rfl) e; rw [hLj] at this; cases this
      clear hcl hpre
      refine wpOp_at rfl rfl fun K hK => ?_
      go_simp
      refine (rwl_writeIn wr).mono ?_
      rintro e w1 ⟨v, rfl, ho⟩
      have Hb := H.below ho.below
      exact hK _ _ ⟨x12, x13, x14, v, x16, x17, x18, x19, x20, x21, x6, by kernel_rfl, ⟨Hb.b, Hb.f0, Hb.f1, Hb.f2, fun _ => own_lower ho.own lt0, Hb.f4, Hb.f5, Hb.f6, fun e => absurd e n7, Hb.f8, Hb.f9, Hb.f10, Hb.f11, Hb.g1, Hb.g2, fun _ e6 => by obtain ⟨b6, e61, _, e62⟩ := H.f6 e6; subst e61; intro k hk hk2; injection hk2 with hk2; subst hk2; have h1 : wr.heap.size ≤ b6 := (own_ge ho.own _ hk).1; have h2 := e62.lt; omega, Hb.g4⟩⟩
    · have n7 : L 7 ≠ true := fun e => by have := hcl 7 4 (by kernel_rfl) e; rw [hLj] at this; cases this
      clear hcl hpre
      refine wpOp_at rfl rfl fun K hK => ?_
      go_simp
      refine (rwl_writeOut wr).mono ?_
      rintro e w1 ⟨v, rfl, ho⟩
      have Hb := H.below ho.below
      exact hK _ _ ⟨x12, x13, x14, x15, v, x17, x18, x19, x20, x21, x6, by kernel_rfl, ⟨Hb.b, Hb.f0, Hb.f1, Hb.f2, Hb.f3, fun _ => own_lower ho.own lt0, Hb.f5, Hb.f6, fun e => absurd e n7, Hb.f8, Hb.f9, Hb.f10, Hb.f11, Hb.g1, Hb.g2, Hb.g3, fun _ e6 => by obtain ⟨b6, e61, _, e62⟩ := H.f6 e6; subst e61; intro k hk hk2; injection hk2 with hk2; subst hk2; have h1 : wr.heap.size ≤ b6 := (own_ge ho.own _ hk).1; have h2 := e62.lt; omega⟩⟩
    · clear hcl hpre
      refine wpOp_at rfl rfl fun K hK => ?_
      go_simp
      exact hK _ _ ⟨x12, x13, x14, x15, x16, .int .i64 (work : Int), x18, x19, x20, x21, x6, by kernel_rfl, ⟨H.b, H.f0, H.f1, H.f2, H.f3, H.f4, fun _ => rfl, H.f6, H.f7, H.f8, H.f9, H.f10, H.f11, H.g1, H.g2, H.g3, H.g4⟩⟩
    · have n7 : L 7 ≠ true := fun e => by have := hcl 7 6 (by kernel_rfl) e; rw [hLj] at this; cases this
      have e5 := H.f5 (hpre 5 (by kernel_rfl))
      clear hcl hpre
      refine wpOp_at rfl rfl fun K hK => ?_
      subst e5
      have hmk := mkOps wr work hwork
      go_simp
      have Hb := H.below (bnew (bnil wr) (.cells (((List.replicate work (⟨0, 0, 0, 0, 0⟩ : Op5)).flatMap gO).toArray) 81))
      exact hK _ _ ⟨x12, x13, x14, x15, x16, _, .slice (some ⟨wr.heap.size, 0, none⟩) work work, x19, x20, x21, x6, by kernel_rfl, ⟨Hb.b, Hb.f0, Hb.f1, Hb.f2, Hb.f3, Hb.f4, Hb.f5, fun _ => ⟨wr.heap.size, rfl, lt0, Blk.new wr _ _⟩, fun e => absurd e n7, Hb.f8, Hb.f9, Hb.f10, Hb.f11, fun e _ => by intro k hk hk2; injection hk2 with hk2; subst hk2; exact absurd (show wr.heap.size < wr.heap.size from (own_ge (H.f1 e) _ hk).2) (Nat.lt_irrefl _), fun e _ => by intro k hk hk2; injection hk2 with hk2; subst hk2; exact absurd (show wr.heap.size < wr.heap.size from (own_ge (H.f2 e) _ hk).2) (Nat.lt_irrefl _), fun e _ => by intro k hk hk2; injection hk2 with hk2; subst hk2; exact absurd (show wr.heap.size < wr.heap.size from (own_ge (H.f3 e) _ hk).2) (Nat.lt_irrefl _), fun e _ => by intro k hk hk2; injection hk2 with hk2; subst hk2; exact absurd (show wr.heap.size < wr.heap.size from (own_ge (H.f4 e) _ hk).2) (Nat.lt_irrefl _)⟩⟩
    · have n9 : L 9 ≠ true := fun e => by have := hcl 9 7 (by kernel_rfl) e; rw [hLj] at this; cases this
      have n11 : L 11 ≠ true := fun e => n9 (hcl 11 9 (by kernel_rfl) e)
      obtain ⟨A1, k1, e1, _⟩ := own_form (H.f1 (hpre 1 (by kernel_rfl)))
      obtain ⟨A2, k2, e2, _⟩ := own_form (H.f2 (hpre 2 (by kernel_rfl)))
      obtain ⟨A3, k3, e3, _⟩ := own_form (H.f3 (hpre 3 (by kernel_rfl)))
      obtain ⟨A4, k4, e4, _⟩ := own_form (H.f4 (hpre 4 (by kernel_rfl)))
      obtain ⟨b6, e6, _⟩ := H.f6 (hpre 6 (by kernel_rfl))
      clear hcl hpre
      refine wpOp_at rfl rfl fun K hK => ?_
      subst e1; subst e2; subst e3; subst e4; subst e6
      go_simp
      have Hb := H.below (bnew (bnil wr) (.cells #[.slice A1 (readInCode).length k1, .slice A2 (readOutCode).length k2, .slice A3 (writeInCode).length k3, .slice A4 (writeOutCode).length k4, .slice (some ⟨b6, 0, none⟩) work work] 33))
      exact hK _ _ ⟨x12, _, _, _, _, x17, _, .slice (some ⟨wr.heap.size, 0, none⟩) 5 5, x20, x21, x6, by kernel_rfl, ⟨Hb.b, Hb.f0, Hb.f1, Hb.f2, Hb.f3, Hb.f4, Hb.f5, Hb.f6, fun _ => ⟨wr.heap.size, rfl, lt0, Blk.new wr _ _⟩, Hb.f8, fun e => absurd e n9, Hb.f10, fun e => absurd e n11, Hb.g1, Hb.g2, Hb.g3, Hb.g4⟩⟩
    · have n9 : L 9 ≠ true := fun e => by have := hcl 9 8 (by kernel_rfl) e; rw [hLj] at this; cases this
      have n11 : L 11 ≠ true := fun e => n9 (hcl 11 9 (by kernel_rfl) e)
      clear hcl hpre
      refine wpOp_at rfl rfl fun K hK => ?_
      have hmk := mkT4 wr
      go_simp
      have Hb := H.below (bnew (bnil wr) (.cells #[.slice none 0 0, .slice none 0 0, .slice none 0 0, .slice none 0 0] 44))
      exact hK _ _ ⟨x12, x13, x14, x15, x16, x17, x18, x19, .slice (some ⟨wr.heap.size, 0, none⟩) 4 4, x21, x6, by kernel_rfl, ⟨Hb.b, Hb.f0, Hb.f1, Hb.f2, Hb.f3, Hb.f4, Hb.f5, Hb.f6, Hb.f7, fun _ => ⟨wr.heap.size, rfl, lt0, Blk.new wr _ _⟩, fun e => absurd e n9, Hb.f10, fun e => absurd e n11, Hb.g1, Hb.g2, Hb.g3, Hb.g4⟩⟩
    · have n11 : L 11 ≠ true := fun e => by have := hcl 11 9 (by kernel_rfl) e; rw [hLj] at this; cases this
      obtain ⟨A0, k0, e0, _⟩ := own_form (H.f0 (hpre 0 (by kernel_rfl)))
      obtain ⟨b7, e7, _⟩ := H.f7 (hpre 7 (by kernel_rfl))
      obtain ⟨b8, e8, _⟩ := H.f8 (hpre 8 (by kernel_rfl))
      clear hcl hpre
      refine wpOp_at rfl rfl fun K hK => ?_
      subst e0; subst e7; subst e8
      go_simp
      exact hK _ _ ⟨_, x13, x14, x15, x16, x17, x18, _, _, _, x6, by kernel_rfl, ⟨H.b, H.f0, H.f1, H.f2, H.f3, H.f4, H.f5, H.f6, H.f7, H.f8, fun _ => rfl, H.f10, fun e => absurd e n11, H.g1, H.g2, H.g3, H.g4⟩⟩
    · have n11 : L 11 ≠ true := fun e => by have := hcl 11 10 (by kernel_rfl) e; rw [hLj] at this; cases this
      clear hcl hpre
      refine wpOp_at rfl rfl fun K hK => ?_
      go_simp
      have Hb := H.below (bnew (bnil wr) (.cells #[.slice none 0 0, .slice none 0 0, .slice none 0 0] 27))
      exact hK _ _ ⟨x12, x13, x14, x15, x16, x17, x18, x19, x20, x21, .pointer (some ⟨wr.heap.size, 0, none⟩), by kernel_rfl, ⟨Hb.b, Hb.f0, Hb.f1, Hb.f2, Hb.f3, Hb.f4, Hb.f5, Hb.f6, Hb.f7, Hb.f8, Hb.f9, fun _ _ => ⟨wr.heap.size, rfl, lt0, Blk.new wr _ _⟩, fun e => absurd e n11, Hb.g1, Hb.g2, Hb.g3, Hb.g4⟩⟩
    · have e9 := H.f9 (hpre 9 (by kernel_rfl))
      obtain ⟨A0, k0, e0, _⟩ := own_form (H.f0 (hcl 9 0 (by kernel_rfl) (hpre 9 (by kernel_rfl))))
      obtain ⟨b7, e7, _⟩ := H.f7 (hcl 9 7 (by kernel_rfl) (hpre 9 (by kernel_rfl)))
      obtain ⟨b8, e8, _⟩ := H.f8 (hcl 9 8 (by kernel_rfl) (hpre 9 (by kernel_rfl)))
      obtain ⟨X, eM, hX, hB⟩ := H.f10 (hpre 10 (by kernel_rfl)) hLj
      clear hcl hpre
      refine wpOp_at rfl rfl fun K hK => ?_
      subst e9; subst e0; subst e7; subst e8; subst eM
      have q0 := hB.cell 0; have q1 := hB.cell 1; have q2 := hB.cell 2
      have r0 := hB.frozen 0; have r1 := hB.frozen 1; have r2 := hB.frozen 2
      go_simp
      exact hK _ _ ⟨_, x13, x14, x15, x16, x17, x18, _, _, _, _, by kernel_rfl, H.store hX hB (fun i hi => by simp [hi]) (by simp)⟩
  · intro L b wr hR hall
    obtain ⟨x12, x13, x14, x15, x16, x17, x18, x19, x20, x21, x6, rfl, H⟩ := hR
    obtain ⟨X, rfl, hX, hB⟩ := H.f11 (hall 11 (by decide))
    obtain ⟨AW, cW, rfl, hcw, hcw2⟩ := own_form (H.f0 (hall 0 (by decide)))
    obtain ⟨Cb, rfl, hC, hCB⟩ := H.f7 (hall 7 (by decide))
    obtain ⟨T, rfl, hT, hTB⟩ := H.f8 (hall 8 (by decide))
    obtain ⟨bk, rfl, hbk, hBK⟩ := H.f6 (hall 6 (by decide))
    have B1 := H.b
    have HAP := hid (show ∀ i, i < 5 → i ≠ 4 → ((fun i => [x13, x14, x15, x16, .slice (some ⟨bk, 0, none⟩) work work].getD i undef) i).ownBlock ≠ some bk from fun i hi h2 hb => by
      rcases (show i = 0 ∨ i = 1 ∨ i = 2 ∨ i = 3 by omega) with rfl | rfl | rfl | rfl
      · exact H.g1 (hall 1 (by decide)) (hall 6 (by decide)) bk hb rfl
      · exact H.g2 (hall 2 (by decide)) (hall 6 (by decide)) bk hb rfl
      · exact H.g3 (hall 3 (by decide)) (hall 6 (by decide)) bk hb rfl
      · exact H.g4 (hall 4 (by decide)) (hall 6 (by decide)) bk hb rfl)
    have MM := hid (MN.start (B := w.heap.size) (w := wr) (nc := 5) (nt := 4) (cv := (fun i => [x13, x14, x15, x16, .slice (some ⟨bk, 0, none⟩) work work].getD i undef)) (ks := (fun i => [readInCode, readOutCode, writeInCode, writeOutCode, List.replicate work ⟨0, 0, 0, 0, 0⟩].getD i [])) (v := fun _ => undef) (Nat.le_trans B00 hC) (Nat.le_trans B00 hT) hCB hTB (fun i hi => by
      rcases (show i = 0 ∨ i = 1 ∨ i = 2 ∨ i = 3 ∨ i = 4 by omega) with rfl | rfl | rfl | rfl | rfl
      · exact own_lower (H.f1 (hall 1 (by decide))) B00
      · exact own_lower (H.f2 (hall 2 (by decide))) B00
      · exact own_lower (H.f3 (hall 3 (by decide))) B00
      · exact own_lower (H.f4 (hall 4 (by decide))) B00
      · show wr.ownsRow w.heap.size 81 5 (.slice (some ⟨bk, 0, none⟩) work work) (List.replicate work (⟨0, 0, 0, 0, 0⟩ : Op5)).length ((List.replicate work (⟨0, 0, 0, 0, 0⟩ : Op5)).flatMap gO)
        rw [List.length_replicate]
        refine ⟨by rw [flatMap_len gO 5 (fun _ => rfl), List.length_replicate], .inr ⟨bk, work, _, rfl, Nat.le_trans B00 hbk, hBK, Nat.le_refl _, by unfold maxLen; omega, ?_, ?_⟩⟩
        · rw [List.size_toArray, flatMap_len gO 5 (fun _ => rfl), List.length_replicate]
        · rw [List.take_of_length_le]; rw [flatMap_len gO 5 (fun _ => rfl), List.length_replicate]; omega))
    have BU := hid (show MBun w wr w.heap.size nil3 w.heap.size X Cb T 5 4 (.slice AW 1 cW) ([0] : List Int) (fun i => [x13, x14, x15, x16, .slice (some ⟨bk, 0, none⟩) work work].getD i undef) (fun i => [readInCode, readOutCode, writeInCode, writeOutCode, List.replicate work ⟨0, 0, 0, 0, 0⟩].getD i []) (fun _ => .slice none 0 0) (fun _ => []) (fun _ => []) from
      ⟨bgo B0.out B1, RB.out.below' B1, RB.out.below' B1, hB, own_lower (H.f0 (hall 0 (by decide))) B00, MM.out⟩)
    have HCV := hid (show (fun i => [x13, x14, x15, x16, .slice (some ⟨bk, 0, none⟩) work work].getD i undef) 4 = .slice (some ⟨bk, 0, none⟩) work work from rfl)
    generalize (fun i => [x13, x14, x15, x16, .slice (some ⟨bk, 0, none⟩) work work].getD i undef) = cv at *
    clear MM hB hCB hTB hBK hX hC hT hbk H hall B1 hcw hcw2
    go_wp2_with fail
    go_loopw [7] (fun v wx => ∃ (k : Nat), k ≤ work ∧ v = .int .i64 k ∧ Hid (MBun w wx w.heap.size nil3 w.heap.size X Cb T 5 4 (.slice AW 1 cW) ([0] : List Int) cv (fun i => [readInCode, readOutCode, writeInCode, writeOutCode, lops k work].getD i []) (fun _ => .slice none 0 0) (fun _ => []) (fun _ => []))) (fun v _ => work - (intOf v).toNat)
    case atStart => exact ⟨0, Nat.zero_le _, rfl, (by rw [lops_zero]; exact BU)⟩
    case round =>
      clear BU
      obtain ⟨k, hkw, rfl, HX⟩ := hrel
      by_cases h1 : k < work
      · have i1 : (k : Int) < (work : Int) := by omega
        have y1 : wr.cell? ⟨X, 1, none⟩ = some (.slice (some ⟨Cb, 0, none⟩) 5 5) := HX.out.hx.cell 1
        have y2 : wr.cell? ⟨Cb, 4, none⟩ = some (.slice (some ⟨bk, 0, none⟩) work work) := by rw [HX.out.mn.cb.cell 4, arrN_at cv (by decide : 4 < 5), HCV.out]
        have ho := HX.out.mn.os 4 (by decide)
        rw [HCV.out] at ho
        obtain ⟨bb, c8, e8, _, hcl8⟩ := own_at ho (by show 0 < (lops k work).length; rw [lops_len hkw]; omega)
        injection e8 with e8 e9 e10; injection e8 with e8; injection e8 with e8
        subst e8
        have hf : ∀ i, wr.frozen? ⟨bk, i, none⟩ = false := fun i => by
          rcases ho.2 with ⟨h0, _⟩ | ⟨g, cap, cur, hv, hb, hh, _⟩
          · cases h0
          · injection hv with hv; injection hv with hv; injection hv with hv
            subst hv
            exact Blk.frozen hh i
        have hc : ∀ j, j < 5 → ∃ u, wr.cell? ⟨bk, k * 5 + j, none⟩ = some u := fun j hj => by
          have hl : k * 5 + j < ((lops k work).flatMap gO).length := by
            rw [flatMap_len gO 5 (fun _ => rfl), lops_len hkw]; omega
          exact ⟨_, hcl8 _ _ (List.getElem?_eq_getElem hl)⟩
        obtain ⟨u0, z0⟩ := hc 0 (by decide)
        obtain ⟨u1, z1⟩ := hc 1 (by decide)
        obtain ⟨u2, z2⟩ := hc 2 (by decide)
        obtain ⟨u3, z3⟩ := hc 3 (by decide)
        obtain ⟨u4, z4⟩ := hc 4 (by decide)
        rw [Nat.add_zero] at z0
        have g0' := hf (k * 5)
        have g1 := hf (k * 5 + 1)
        have g2 := hf (k * 5 + 2)
        have g3 := hf (k * 5 + 3)
        have g4 := hf (k * 5 + 4)
        have HN := hid (HX.out.op5 (i0 := 4) (bk := bk) (n := work) (c := work) (k := k) (by decide) HCV.out (lops_len hkw) HAP.out h1 ⟨1, 0, (k : Int), 0, 0⟩)
        rw [getD5] at HN
        have HN := hid (show MBun w _ w.heap.size nil3 w.heap.size X Cb T 5 4 (.slice AW 1 cW) ([0] : List Int) cv (fun i => [readInCode, readOutCode, writeInCode, writeOutCode, lops (k + 1) work].getD i []) _ _ _ by have h := HN.out; rw [show ([readInCode, readOutCode, writeInCode, writeOutCode, lops k work].getD 4 [] : List Op5) = lops k work from rfl, lops_set h1] at h; exact h)
        clear hf hc hcl8 ho e9 e10
        go_wp2_with fail
        go_roundw
        case rel => exact ⟨k + 1, h1, by go_num, HN⟩
        case measure => simp [intOf]; omega
      · obtain rfl : k = work := by omega
        have i1 : ¬ (k : Int) < (k : Int) := by omega
        obtain ⟨work, hwk⟩ : ∃ work, work = k := ⟨_, rfl⟩
        subst hwk
        have HX := hid (HX.out.threads (th' := wths (kdOf ks) 0) (fun q hq => (wths_zero (kdOf ks) hq).symm))
        go_wp2_with fail
        go_loopw [8] (fun v wx => ∃ (i : Nat) (tv : Nat → Value) (av : Nat → List SV), i ≤ 24 ∧ v = .int .i64 i ∧ Hid (MBun w wx w.heap.size nil3 w.heap.size X Cb T 5 4 (.slice AW 1 cW) ([0] : List Int) cv (fun i => [readInCode, readOutCode, writeInCode, writeOutCode, lops work work].getD i []) tv (wths (kdOf ks) i) av)) (fun v _ => 24 - (intOf v).toNat)
        case atStart => exact ⟨0, _, _, Nat.zero_le _, rfl, HX⟩
        case round =>
          clear HX
          obtain ⟨i, tv, av, hi24, rfl, HX⟩ := hrel
          by_cases h2 : i < 24
          · have i2 : (i : Int) < 24 := by omega
            obtain ⟨j, hj⟩ : ∃ j, i % 4 = j := ⟨_, rfl⟩
            have HJ := hid hj
            have hj4 : j < 4 := by omega
            have ij4 : (j : Int) < 4 := by omega
            have em : (i : Int).tmod 4 = (j : Int) := by rw [Int.tmod_eq_emod_of_nonneg (by omega), ← hj]; omega
            obtain ⟨kb, hkb⟩ : ∃ kb, kdOf ks j (i / 4) = kb := ⟨_, rfl⟩
            have hkb2 : kb = ks.getD i false := by rw [← hkb, ← hj, kdOf_at]
            have HKB := hid hkb
            clear hj hkb
            obtain ⟨Aj, cj, hAj, HR0⟩ := HX.out.row hj4
            obtain ⟨L, hL⟩ : ∃ L, ((wths (kdOf ks) i) j).length = L := ⟨_, rfl⟩
            rw [hL] at hAj HR0
            have hL18 : L ≤ 18 := by rw [← hL]; exact wths_len _ hi24
            have HR := hid HR0
            have HAJ := hid hAj
            have c2 := HR.out.c2; have c3 := HR.out.c3; have f3 := HR.out.f3; have hcj := HR.out.hcj; have hcm := HR.out.hcm
            unfold maxLen at hcm
            clear HR0 hAj hL
            have ltT := World.block_lt_of_cell? wr _ c3
            have ltX := World.block_lt_of_cell? wr _ c2
            have hlen : ks.length = nk := by have := HK.out.1; rw [flatMap_len (fun b : Bool => [Value.bool b]) 1 (fun _ => rfl)] at this; omega
            by_cases h3 : i < nk
            · have i3 : (i : Int) < (nk : Int) := by omega
              obtain ⟨x, hx⟩ : ∃ x, ks[i]? = some x := ⟨_, List.getElem?_eq_getElem (by omega)⟩
              have hkx : kb = x := by rw [hkb2, List.getD_eq_getElem?_getD, hx]; rfl
              obtain ⟨ad, rfl, hcad⟩ := (HK.out.below HX.out.below).2 (by omega)
              have hcx : wr.cell? (ad.add i) = some (.bool x) := hcad i _ (by have h := flatMap_at (fun b : Bool => [Value.bool b]) 1 (fun _ => rfl) ks i 0 x hx (by decide); rw [Nat.mul_one, Nat.add_zero] at h; rw [h]; rfl)
              subst hkx
              clear hkb2 hx hcad
              cases kb with
              | true =>
                go_upto_region 12 with fail
                obtain ⟨y, hy⟩ : ∃ y, (wths (kdOf ks) i j).zip (av j) ++ [((⟨2, []⟩ : VCall), (⟨none, 0, 0⟩ : SV)), (⟨4, []⟩, ⟨none, 0, 0⟩), (⟨3, []⟩, ⟨none, 0, 0⟩)] = y := ⟨_, rfl⟩
                have HYE := hid hy
                have HYL := hid (show y.length = L + 3 by rw [← hy, List.length_append, HR.out.len]; rfl)
                clear hy
                refine wp_region_held_drew (S := (fun w' => w'.cell? ⟨X, 2, none⟩ = some (.slice (some ⟨T, 0, none⟩) 4 4) ∧ w'.frozen? ⟨T, j, none⟩ = false)) (by kernel_rfl) ?_ (fun hHeld => ?_)
                · (try dsimp only); (first | assumption | exact ⟨c2, f3⟩ | exact HZ.1 | exact HZ.2.2 _ | (refine sees2f ?_ c2 c3 f3; (repeat (first | exact bnil _ | refine Below.drew ?_ | refine bnew ?_ _))))
                refine wpAnyH_take (i := 0) (oi := ⟨some 49, _, _, _, _, _⟩) (v := ?_) rfl (by kernel_rfl) (by kernel_rfl) (by kernel_rfl) (fun _ _ _ h => h) (Or.inl ⟨by rfl, ?_⟩) (by assumption) ?_
                rotate_left
                · intro w hSw; (try dsimp only at hSw); go_simp <;> with_reducible rfl
                try simp only [Act.put, List.setIfInBounds_toArray, List.set_cons_zero, List.set_cons_succ]
                refine wpAnyH_take (i := 1) (oi := ⟨some 50, _, _, _, _, _⟩) (v := ?_) rfl (by kernel_rfl) (by kernel_rfl) (by kernel_rfl) (fun _ _ _ h => h) (Or.inl ⟨by rfl, ?_⟩) (by assumption) ?_
                rotate_left
                · intro w hSw; (try dsimp only at hSw); go_simp <;> with_reducible rfl
                try simp only [Act.put, List.setIfInBounds_toArray, List.set_cons_zero, List.set_cons_succ]
                refine wpAnyH_take (i := 2) (oi := ⟨some 51, _, _, _, _, _⟩) (v := ?_) rfl (by kernel_rfl) (by kernel_rfl) (by kernel_rfl) (fun _ _ _ h => h) (Or.inl ⟨by rfl, ?_⟩) (by assumption) ?_
                rotate_left
                · intro w hSw; (try dsimp only at hSw); go_simp <;> with_reducible rfl
                try simp only [Act.put, List.setIfInBounds_toArray, List.set_cons_zero, List.set_cons_succ]
                refine wpAnyH_take (i := 3) (oi := ⟨some 52, _, _, _, _, _⟩) (v := ?_) rfl (by kernel_rfl) (by kernel_rfl) (by kernel_rfl) (fun _ _ _ h => h) (Or.inl ⟨by rfl, ?_⟩) (by assumption) ?_
                rotate_left
                · intro w hSw; (try dsimp only at hSw); go_simp <;> with_reducible rfl
                try simp only [Act.put, List.setIfInBounds_toArray, List.set_cons_zero, List.set_cons_succ]
                refine wpAnyH_take (i := 4) (oi := ⟨some 53, _, _, _, _, _⟩) (v := ?_) rfl (by kernel_rfl) (by kernel_rfl) (by kernel_rfl) (fun _ _ _ h => h) (Or.inl ⟨by rfl, ?_⟩) (by assumption) ?_
                rotate_left
                · intro w hSw; (try dsimp only at hSw); go_simp <;> with_reducible rfl
                try simp only [Act.put, List.setIfInBounds_toArray, List.set_cons_zero, List.set_cons_succ]
                refine wpAnyH_take (i := 5) (oi := ⟨some 54, _, _, _, _, _⟩) (v := ?_) rfl (by kernel_rfl) (by kernel_rfl) (by kernel_rfl) (fun _ _ _ h => h) (Or.inl ⟨by rfl, ?_⟩) (by assumption) ?_
                rotate_left
                · intro w hSw; (try dsimp only at hSw); go_simp <;> with_reducible rfl
                try simp only [Act.put, List.setIfInBounds_toArray, List.set_cons_zero, List.set_cons_succ]
                refine wpAnyH_take (i := 6) (oi := ⟨some 55, _, _, _, _, _⟩) (v := ?_) rfl (by kernel_rfl) (by kernel_rfl) (by kernel_rfl) (fun _ _ _ h => h) (Or.inl ⟨by rfl, ?_⟩) (by assumption) ?_
                rotate_left
                · intro w hSw; (try dsimp only at hSw); go_simp <;> with_reducible rfl
                try simp only [Act.put, List.setIfInBounds_toArray, List.set_cons_zero, List.set_cons_succ]
                refine wpAnyH_take (i := 7) (oi := ⟨some 56, _, _, _, _, _⟩) (v := ?_) rfl (by kernel_rfl) (by kernel_rfl) (by kernel_rfl) (fun _ _ _ h => h) (Or.inl ⟨by rfl, ?_⟩) (by assumption) ?_
                rotate_left
                · intro w hSw; (try dsimp only at hSw); go_simp <;> with_reducible rfl
                try simp only [Act.put, List.setIfInBounds_toArray, List.set_cons_zero, List.set_cons_succ]
                refine wpAnyH_take (i := 8) (oi := ⟨some 57, _, _, _, _, _⟩) (v := ?_) rfl (by kernel_rfl) (by kernel_rfl) (by kernel_rfl) (fun _ _ _ h => h) (Or.inl ⟨by rfl, ?_⟩) (by assumption) ?_
                rotate_left
                · intro w hSw; (try dsimp only at hSw); go_simp <;> with_reducible rfl
                try simp only [Act.put, List.setIfInBounds_toArray, List.set_cons_zero, List.set_cons_succ]
                refine wpAnyH_take (i := 10) (oi := ⟨some 59, _, _, _, _, _⟩) (v := ?_) rfl (by kernel_rfl) (by kernel_rfl) (by kernel_rfl) (fun _ _ _ h => h) (Or.inl ⟨by rfl, ?_⟩) (by assumption) ?_
                rotate_left
                · intro w hSw; (try dsimp only at hSw); go_simp <;> with_reducible rfl
                try simp only [Act.put, List.setIfInBounds_toArray, List.set_cons_zero, List.set_cons_succ]
                refine wpAnyH_take (i := 11) (oi := ⟨some 60, _, _, _, _, _⟩) (v := ?_) rfl (by kernel_rfl) (by kernel_rfl) (by kernel_rfl) (fun _ _ _ h => h) (Or.inl ⟨by rfl, ?_⟩) (by assumption) ?_
                rotate_left
                · intro w hSw; (try dsimp only at hSw); go_simp <;> with_reducible rfl
                try simp only [Act.put, List.setIfInBounds_toArray, List.set_cons_zero, List.set_cons_succ]
                refine wpAnyH_take (i := 12) (oi := ⟨some 61, _, _, _, _, _⟩) (v := ?_) rfl (by kernel_rfl) (by kernel_rfl) (by kernel_rfl) (fun _ _ _ h => h) (Or.inl ⟨by rfl, ?_⟩) (by assumption) ?_
                rotate_left
                · intro w hSw; (try dsimp only at hSw); go_simp <;> with_reducible rfl
                try simp only [Act.put, List.setIfInBounds_toArray, List.set_cons_zero, List.set_cons_succ]
                refine wpAnyH_take (i := 13) (oi := ⟨some 62, _, _, _, _, _⟩) (v := ?_) rfl (by kernel_rfl) (by kernel_rfl) (by kernel_rfl) (fun _ _ _ h => h) (Or.inl ⟨by rfl, ?_⟩) (by assumption) ?_
                rotate_left
                · intro w hSw; (try dsimp only at hSw); go_simp <;> with_reducible rfl
                try simp only [Act.put, List.setIfInBounds_toArray, List.set_cons_zero, List.set_cons_succ]
                refine wpAnyH_take (i := 14) (oi := ⟨some 63, _, _, _, _, _⟩) (v := ?_) rfl (by kernel_rfl) (by kernel_rfl) (by kernel_rfl) (fun _ _ _ h => h) (Or.inl ⟨by rfl, ?_⟩) (by assumption) ?_
                rotate_left
                · intro w hSw; (try dsimp only at hSw); go_simp <;> with_reducible rfl
                try simp only [Act.put, List.setIfInBounds_toArray, List.set_cons_zero, List.set_cons_succ]
                refine wpAnyH_take (i := 15) (oi := ⟨some 64, _, _, _, _, _⟩) (v := ?_) rfl (by kernel_rfl) (by kernel_rfl) (by kernel_rfl) (fun _ _ _ h => h) (Or.inl ⟨by rfl, ?_⟩) (by assumption) ?_
                rotate_left
                · intro w hSw; (try dsimp only at hSw); go_simp <;> with_reducible rfl
                try simp only [Act.put, List.setIfInBounds_toArray, List.set_cons_zero, List.set_cons_succ]
                refine wpAnyH_ready (rs := [9, 16]) (by kernel_rfl) (by simp) ?_
                refine AllReadyH.cons (o := ⟨some 58, _, _, _, _, _⟩) rfl (fun K hK => ?_) ?_
                go_simp
                refine hK.out _ _ ?_ (fun hHeld => ?_)
                · (try dsimp only); (first | assumption | exact ⟨c2, f3⟩ | exact HZ.1 | exact HZ.2.2 _ | (refine sees2f ?_ c2 c3 f3; (repeat (first | exact bnil _ | refine Below.drew ?_ | refine bnew ?_ _))))
                clear hK K
                try simp only [Act.put, List.setIfInBounds_toArray, List.set_cons_zero, List.set_cons_succ]
                refine wpAnyH_ready (rs := [16]) (by kernel_rfl) (by simp) ?_
                refine AllReadyH.cons (o := ⟨some 65, _, _, _, _, _⟩) rfl (fun K hK => ?_) AllReadyH.nil
                go_simp
                refine hK.out _ _ ?_ (fun hHeld => ?_)
                · (try dsimp only); (first | assumption | exact ⟨c2, f3⟩ | exact HZ.1 | exact HZ.2.2 _ | (refine sees2f ?_ c2 c3 f3; (repeat (first | exact bnil _ | refine Below.drew ?_ | refine bnew ?_ _))))
                clear hK K
                try simp only [Act.put, List.setIfInBounds_toArray, List.set_cons_zero, List.set_cons_succ]
                refine wpAnyH_ready (rs := [17]) (by kernel_rfl) (by simp) ?_
                refine AllReadyH.cons (o := ⟨some 66, _, _, _, _, _⟩) rfl (fun K hK => ?_) AllReadyH.nil
                (refine step_appC elmCN gS_one rfl (.tmp 58) (.tmp 65) rfl (.slice Aj L cj) ((wths (kdOf ks) i j).zip (av j)) rfl (HR.out.row _ (bnew (bnil _) _).drew) [((⟨2, []⟩ : VCall), (⟨none, 0, 0⟩ : SV)), (⟨4, []⟩, ⟨none, 0, 0⟩), (⟨3, []⟩, ⟨none, 0, 0⟩)] y HYE rfl (Sl.drew (Sl.fresh' _ #[_, _, _, _, _, _] 46 2 3 _ (by simp) rfl)) rfl (by rw [HYL.out]; simp only [maxLen]; omega) (by rw [HYL.out]; omega) (Nat.le_trans HR.out.size (bnew (bnil _) _).drew.size) ?_; intro E6 c6 w6 hc6 hc7 HN6 HG6 HO6; have HZ := HR.out.grow _ w6 (bnew (bnil _) _).drew HG6.out)
                refine hK.out _ _ ?_ (fun hHeld => ?_)
                · (try dsimp only); (first | assumption | exact ⟨c2, f3⟩ | exact HZ.1 | exact HZ.2.2 _ | (refine sees2f ?_ c2 c3 f3; (repeat (first | exact bnil _ | refine Below.drew ?_ | refine bnew ?_ _))))
                clear hK K
                try simp only [Act.put, List.setIfInBounds_toArray, List.set_cons_zero, List.set_cons_succ]
                refine wpAnyH_take (i := 18) (oi := ⟨some 67, _, _, _, _, _⟩) (v := ?_) rfl (by kernel_rfl) (by kernel_rfl) (by kernel_rfl) (fun _ _ _ h => h) (Or.inl ⟨by rfl, ?_⟩) (by assumption) ?_
                rotate_left
                · intro w hSw; (try dsimp only at hSw); go_simp <;> with_reducible rfl
                try simp only [Act.put, List.setIfInBounds_toArray, List.set_cons_zero, List.set_cons_succ]
                refine wpAnyH_ready (rs := [19]) (by kernel_rfl) (by simp) ?_
                refine AllReadyH.cons (o := ⟨none, _, _, _, _, _⟩) rfl (fun K hK => ?_) AllReadyH.nil
                go_simp
                refine hK.out _ _ ?_ (fun hHeld => ?_)
                · (try dsimp only); (first | assumption | exact ⟨c2, f3⟩ | exact HZ.1 | exact HZ.2.2 _ | (refine sees2f ?_ c2 c3 f3; (repeat (first | exact bnil _ | refine Below.drew ?_ | refine bnew ?_ _))))
                clear hK K
                try dsimp only [Act.put]
                refine wpAnyH_done (by kernel_rfl) ?_ _
                rotate_left
                refine AllReadyH.cons (o := ⟨some 65, _, _, _, _, _⟩) rfl (fun K hK => ?_) AllReadyH.nil
                go_simp
                refine hK.out _ _ ?_ (fun hHeld => ?_)
                · (try dsimp only); (first | assumption | exact ⟨c2, f3⟩ | exact HZ.1 | exact HZ.2.2 _ | (refine sees2f ?_ c2 c3 f3; (repeat (first | exact bnil _ | refine Below.drew ?_ | refine bnew ?_ _))))
                clear hK K
                try simp only [Act.put, List.setIfInBounds_toArray, List.set_cons_zero, List.set_cons_succ]
                refine wpAnyH_ready (rs := [9]) (by kernel_rfl) (by simp) ?_
                refine AllReadyH.cons (o := ⟨some 58, _, _, _, _, _⟩) rfl (fun K hK => ?_) AllReadyH.nil
                go_simp
                refine hK.out _ _ ?_ (fun hHeld => ?_)
                · (try dsimp only); (first | assumption | exact ⟨c2, f3⟩ | exact HZ.1 | exact HZ.2.2 _ | (refine sees2f ?_ c2 c3 f3; (repeat (first | exact bnil _ | refine Below.drew ?_ | refine bnew ?_ _))))
                clear hK K
                try simp only [Act.put, List.setIfInBounds_toArray, List.set_cons_zero, List.set_cons_succ]
                refine wpAnyH_ready (rs := [17]) (by kernel_rfl) (by simp) ?_
                refine AllReadyH.cons (o := ⟨some 66, _, _, _, _, _⟩) rfl (fun K hK => ?_) AllReadyH.nil
                (refine step_appC elmCN gS_one rfl (.tmp 58) (.tmp 65) rfl (.slice Aj L cj) ((wths (kdOf ks) i j).zip (av j)) rfl (HR.out.row _ (bnew (bnil _) _).drew) [((⟨2, []⟩ : VCall), (⟨none, 0, 0⟩ : SV)), (⟨4, []⟩, ⟨none, 0, 0⟩), (⟨3, []⟩, ⟨none, 0, 0⟩)] y HYE rfl (Sl.drew (Sl.fresh' _ #[_, _, _, _, _, _] 46 2 3 _ (by simp) rfl)) rfl (by rw [HYL.out]; simp only [maxLen]; omega) (by rw [HYL.out]; omega) (Nat.le_trans HR.out.size (bnew (bnil _) _).drew.size) ?_; intro E6 c6 w6 hc6 hc7 HN6 HG6 HO6; have HZ := HR.out.grow _ w6 (bnew (bnil _) _).drew HG6.out)
                refine hK.out _ _ ?_ (fun hHeld => ?_)
                · (try dsimp only); (first | assumption | exact ⟨c2, f3⟩ | exact HZ.1 | exact HZ.2.2 _ | (refine sees2f ?_ c2 c3 f3; (repeat (first | exact bnil _ | refine Below.drew ?_ | refine bnew ?_ _))))
                clear hK K
                try simp only [Act.put, List.setIfInBounds_toArray, List.set_cons_zero, List.set_cons_succ]
                refine wpAnyH_take (i := 18) (oi := ⟨some 67, _, _, _, _, _⟩) (v := ?_) rfl (by kernel_rfl) (by kernel_rfl) (by kernel_rfl) (fun _ _ _ h => h) (Or.inl ⟨by rfl, ?_⟩) (by assumption) ?_
                rotate_left
                · intro w hSw; (try dsimp only at hSw); go_simp <;> with_reducible rfl
                try simp only [Act.put, List.setIfInBounds_toArray, List.set_cons_zero, List.set_cons_succ]
                refine wpAnyH_ready (rs := [19]) (by kernel_rfl) (by simp) ?_
                refine AllReadyH.cons (o := ⟨none, _, _, _, _, _⟩) rfl (fun K hK => ?_) AllReadyH.nil
                go_simp
                refine hK.out _ _ ?_ (fun hHeld => ?_)
                · (try dsimp only); (first | assumption | exact ⟨c2, f3⟩ | exact HZ.1 | exact HZ.2.2 _ | (refine sees2f ?_ c2 c3 f3; (repeat (first | exact bnil _ | refine Below.drew ?_ | refine bnew ?_ _))))
                clear hK K
                try dsimp only [Act.put]
                refine wpAnyH_done (by kernel_rfl) ?_ _
                rotate_left
                all_goals
                  have HF := hid (HX.out.app hj4 (wround true) [⟨none, 0, 0⟩, ⟨none, 0, 0⟩, ⟨none, 0, 0⟩] (bnew (bnil _) _).drew rfl (three_own true) HYE.out (by rw [HAJ.out]; exact HG6.out) (by rw [HAJ.out]; exact HO6.out) HN6.out)
                  have HXE := hid (HF.out.threads (th' := wths (kdOf ks) (i + 1)) (fun q hq => by have h := wths_next (kdOf ks) i q hq; rw [HJ.out, HKB.out] at h; exact h))
                  clear HZ HG6 HO6 HN6 HF
                  go_wp2_with fail
                  go_roundw
                  case rel => exact ⟨i + 1, _, _, by omega, by go_num, HXE⟩
                  case measure => simp [intOf]; omega

              | false =>
                go_upto_region 12 with fail
                obtain ⟨y, hy⟩ : ∃ y, (wths (kdOf ks) i j).zip (av j) ++ [((⟨0, []⟩ : VCall), (⟨none, 0, 0⟩ : SV)), (⟨4, []⟩, ⟨none, 0, 0⟩), (⟨1, []⟩, ⟨none, 0, 0⟩)] = y := ⟨_, rfl⟩
                have HYE := hid hy
                have HYL := hid (show y.length = L + 3 by rw [← hy, List.length_append, HR.out.len]; rfl)
                clear hy
                refine wp_region_held_drew (S := (fun w' => w'.cell? ⟨X, 2, none⟩ = some (.slice (some ⟨T, 0, none⟩) 4 4) ∧ w'.frozen? ⟨T, j, none⟩ = false)) (by kernel_rfl) ?_ (fun hHeld => ?_)
                · (try dsimp only); (first | assumption | exact ⟨c2, f3⟩ | exact HZ.1 | exact HZ.2.2 _ | (refine sees2f ?_ c2 c3 f3; (repeat (first | exact bnil _ | refine Below.drew ?_ | refine bnew ?_ _))))
                refine wpAnyH_take (i := 0) (oi := ⟨some 49, _, _, _, _, _⟩) (v := ?_) rfl (by kernel_rfl) (by kernel_rfl) (by kernel_rfl) (fun _ _ _ h => h) (Or.inl ⟨by rfl, ?_⟩) (by assumption) ?_
                rotate_left
                · intro w hSw; (try dsimp only at hSw); go_simp <;> with_reducible rfl
                try simp only [Act.put, List.setIfInBounds_toArray, List.set_cons_zero, List.set_cons_succ]
                refine wpAnyH_take (i := 1) (oi := ⟨some 50, _, _, _, _, _⟩) (v := ?_) rfl (by kernel_rfl) (by kernel_rfl) (by kernel_rfl) (fun _ _ _ h => h) (Or.inl ⟨by rfl, ?_⟩) (by assumption) ?_
                rotate_left
                · intro w hSw; (try dsimp only at hSw); go_simp <;> with_reducible rfl
                try simp only [Act.put, List.setIfInBounds_toArray, List.set_cons_zero, List.set_cons_succ]
                refine wpAnyH_take (i := 2) (oi := ⟨some 51, _, _, _, _, _⟩) (v := ?_) rfl (by kernel_rfl) (by kernel_rfl) (by kernel_rfl) (fun _ _ _ h => h) (Or.inl ⟨by rfl, ?_⟩) (by assumption) ?_
                rotate_left
                · intro w hSw; (try dsimp only at hSw); go_simp <;> with_reducible rfl
                try simp only [Act.put, List.setIfInBounds_toArray, List.set_cons_zero, List.set_cons_succ]
                refine wpAnyH_take (i := 3) (oi := ⟨some 52, _, _, _, _, _⟩) (v := ?_) rfl (by kernel_rfl) (by kernel_rfl) (by kernel_rfl) (fun _ _ _ h => h) (Or.inl ⟨by rfl, ?_⟩) (by assumption) ?_
                rotate_left
                · intro w hSw; (try dsimp only at hSw); go_simp <;> with_reducible rfl
                try simp only [Act.put, List.setIfInBounds_toArray, List.set_cons_zero, List.set_cons_succ]
                refine wpAnyH_take (i := 4) (oi := ⟨some 53, _, _, _, _, _⟩) (v := ?_) rfl (by kernel_rfl) (by kernel_rfl) (by kernel_rfl) (fun _ _ _ h => h) (Or.inl ⟨by rfl, ?_⟩) (by assumption) ?_
                rotate_left
                · intro w hSw; (try dsimp only at hSw); go_simp <;> with_reducible rfl
                try simp only [Act.put, List.setIfInBounds_toArray, List.set_cons_zero, List.set_cons_succ]
                refine wpAnyH_take (i := 5) (oi := ⟨some 54, _, _, _, _, _⟩) (v := ?_) rfl (by kernel_rfl) (by kernel_rfl) (by kernel_rfl) (fun _ _ _ h => h) (Or.inl ⟨by rfl, ?_⟩) (by assumption) ?_
                rotate_left
                · intro w hSw; (try dsimp only at hSw); go_simp <;> with_reducible rfl
                try simp only [Act.put, List.setIfInBounds_toArray, List.set_cons_zero, List.set_cons_succ]
                refine wpAnyH_take (i := 6) (oi := ⟨some 55, _, _, _, _, _⟩) (v := ?_) rfl (by kernel_rfl) (by kernel_rfl) (by kernel_rfl) (fun _ _ _ h => h) (Or.inl ⟨by rfl, ?_⟩) (by assumption) ?_
                rotate_left
                · intro w hSw; (try dsimp only at hSw); go_simp <;> with_reducible rfl
                try simp only [Act.put, List.setIfInBounds_toArray, List.set_cons_zero, List.set_cons_succ]
                refine wpAnyH_take (i := 7) (oi := ⟨some 56, _, _, _, _, _⟩) (v := ?_) rfl (by kernel_rfl) (by kernel_rfl) (by kernel_rfl) (fun _ _ _ h => h) (Or.inl ⟨by rfl, ?_⟩) (by assumption) ?_
                rotate_left
                · intro w hSw; (try dsimp only at hSw); go_simp <;> with_reducible rfl
                try simp only [Act.put, List.setIfInBounds_toArray, List.set_cons_zero, List.set_cons_succ]
                refine wpAnyH_take (i := 8) (oi := ⟨some 57, _, _, _, _, _⟩) (v := ?_) rfl (by kernel_rfl) (by kernel_rfl) (by kernel_rfl) (fun _ _ _ h => h) (Or.inl ⟨by rfl, ?_⟩) (by assumption) ?_
                rotate_left
                · intro w hSw; (try dsimp only at hSw); go_simp <;> with_reducible rfl
                try simp only [Act.put, List.setIfInBounds_toArray, List.set_cons_zero, List.set_cons_succ]
                refine wpAnyH_take (i := 10) (oi := ⟨some 59, _, _, _, _, _⟩) (v := ?_) rfl (by kernel_rfl) (by kernel_rfl) (by kernel_rfl) (fun _ _ _ h => h) (Or.inl ⟨by rfl, ?_⟩) (by assumption) ?_
                rotate_left
                · intro w hSw; (try dsimp only at hSw); go_simp <;> with_reducible rfl
                try simp only [Act.put, List.setIfInBounds_toArray, List.set_cons_zero, List.set_cons_succ]
                refine wpAnyH_take (i := 11) (oi := ⟨some 60, _, _, _, _, _⟩) (v := ?_) rfl (by kernel_rfl) (by kernel_rfl) (by kernel_rfl) (fun _ _ _ h => h) (Or.inl ⟨by rfl, ?_⟩) (by assumption) ?_
                rotate_left
                · intro w hSw; (try dsimp only at hSw); go_simp <;> with_reducible rfl
                try simp only [Act.put, List.setIfInBounds_toArray, List.set_cons_zero, List.set_cons_succ]
                refine wpAnyH_take (i := 12) (oi := ⟨some 61, _, _, _, _, _⟩) (v := ?_) rfl (by kernel_rfl) (by kernel_rfl) (by kernel_rfl) (fun _ _ _ h => h) (Or.inl ⟨by rfl, ?_⟩) (by assumption) ?_
                rotate_left
                · intro w hSw; (try dsimp only at hSw); go_simp <;> with_reducible rfl
                try simp only [Act.put, List.setIfInBounds_toArray, List.set_cons_zero, List.set_cons_succ]
                refine wpAnyH_take (i := 13) (oi := ⟨some 62, _, _, _, _, _⟩) (v := ?_) rfl (by kernel_rfl) (by kernel_rfl) (by kernel_rfl) (fun _ _ _ h => h) (Or.inl ⟨by rfl, ?_⟩) (by assumption) ?_
                rotate_left
                · intro w hSw; (try dsimp only at hSw); go_simp <;> with_reducible rfl
                try simp only [Act.put, List.setIfInBounds_toArray, List.set_cons_zero, List.set_cons_succ]
                refine wpAnyH_take (i := 14) (oi := ⟨some 63, _, _, _, _, _⟩) (v := ?_) rfl (by kernel_rfl) (by kernel_rfl) (by kernel_rfl) (fun _ _ _ h => h) (Or.inl ⟨by rfl, ?_⟩) (by assumption) ?_
                rotate_left
                · intro w hSw; (try dsimp only at hSw); go_simp <;> with_reducible rfl
                try simp only [Act.put, List.setIfInBounds_toArray, List.set_cons_zero, List.set_cons_succ]
                refine wpAnyH_take (i := 15) (oi := ⟨some 64, _, _, _, _, _⟩) (v := ?_) rfl (by kernel_rfl) (by kernel_rfl) (by kernel_rfl) (fun _ _ _ h => h) (Or.inl ⟨by rfl, ?_⟩) (by assumption) ?_
                rotate_left
                · intro w hSw; (try dsimp only at hSw); go_simp <;> with_reducible rfl
                try simp only [Act.put, List.setIfInBounds_toArray, List.set_cons_zero, List.set_cons_succ]
                refine wpAnyH_ready (rs := [9, 16]) (by kernel_rfl) (by simp) ?_
                refine AllReadyH.cons (o := ⟨some 58, _, _, _, _, _⟩) rfl (fun K hK => ?_) ?_
                go_simp
                refine hK.out _ _ ?_ (fun hHeld => ?_)
                · (try dsimp only); (first | assumption | exact ⟨c2, f3⟩ | exact HZ.1 | exact HZ.2.2 _ | (refine sees2f ?_ c2 c3 f3; (repeat (first | exact bnil _ | refine Below.drew ?_ | refine bnew ?_ _))))
                clear hK K
                try simp only [Act.put, List.setIfInBounds_toArray, List.set_cons_zero, List.set_cons_succ]
                refine wpAnyH_ready (rs := [16]) (by kernel_rfl) (by simp) ?_
                refine AllReadyH.cons (o := ⟨some 65, _, _, _, _, _⟩) rfl (fun K hK => ?_) AllReadyH.nil
                go_simp
                refine hK.out _ _ ?_ (fun hHeld => ?_)
                · (try dsimp only); (first | assumption | exact ⟨c2, f3⟩ | exact HZ.1 | exact HZ.2.2 _ | (refine sees2f ?_ c2 c3 f3; (repeat (first | exact bnil _ | refine Below.drew ?_ | refine bnew ?_ _))))
                clear hK K
                try simp only [Act.put, List.setIfInBounds_toArray, List.set_cons_zero, List.set_cons_succ]
                refine wpAnyH_ready (rs := [17]) (by kernel_rfl) (by simp) ?_
                refine AllReadyH.cons (o := ⟨some 66, _, _, _, _, _⟩) rfl (fun K hK => ?_) AllReadyH.nil
                (refine step_appC elmCN gS_one rfl (.tmp 58) (.tmp 65) rfl (.slice Aj L cj) ((wths (kdOf ks) i j).zip (av j)) rfl (HR.out.row _ (bnew (bnil _) _).drew) [((⟨0, []⟩ : VCall), (⟨none, 0, 0⟩ : SV)), (⟨4, []⟩, ⟨none, 0, 0⟩), (⟨1, []⟩, ⟨none, 0, 0⟩)] y HYE rfl (Sl.drew (Sl.fresh' _ #[_, _, _, _, _, _] 46 2 3 _ (by simp) rfl)) rfl (by rw [HYL.out]; simp only [maxLen]; omega) (by rw [HYL.out]; omega) (Nat.le_trans HR.out.size (bnew (bnil _) _).drew.size) ?_; intro E6 c6 w6 hc6 hc7 HN6 HG6 HO6; have HZ := HR.out.grow _ w6 (bnew (bnil _) _).drew HG6.out)
                refine hK.out _ _ ?_ (fun hHeld => ?_)
                · (try dsimp only); (first | assumption | exact ⟨c2, f3⟩ | exact HZ.1 | exact HZ.2.2 _ | (refine sees2f ?_ c2 c3 f3; (repeat (first | exact bnil _ | refine Below.drew ?_ | refine bnew ?_ _))))
                clear hK K
                try simp only [Act.put, List.setIfInBounds_toArray, List.set_cons_zero, List.set_cons_succ]
                refine wpAnyH_take (i := 18) (oi := ⟨some 67, _, _, _, _, _⟩) (v := ?_) rfl (by kernel_rfl) (by kernel_rfl) (by kernel_rfl) (fun _ _ _ h => h) (Or.inl ⟨by rfl, ?_⟩) (by assumption) ?_
                rotate_left
                · intro w hSw; (try dsimp only at hSw); go_simp <;> with_reducible rfl
                try simp only [Act.put, List.setIfInBounds_toArray, List.set_cons_zero, List.set_cons_succ]
                refine wpAnyH_ready (rs := [19]) (by kernel_rfl) (by simp) ?_
                refine AllReadyH.cons (o := ⟨none, _, _, _, _, _⟩) rfl (fun K hK => ?_) AllReadyH.nil
                go_simp
                refine hK.out _ _ ?_ (fun hHeld => ?_)
                · (try dsimp only); (first | assumption | exact ⟨c2, f3⟩ | exact HZ.1 | exact HZ.2.2 _ | (refine sees2f ?_ c2 c3 f3; (repeat (first | exact bnil _ | refine Below.drew ?_ | refine bnew ?_ _))))
                clear hK K
                try dsimp only [Act.put]
                refine wpAnyH_done (by kernel_rfl) ?_ _
                rotate_left
                refine AllReadyH.cons (o := ⟨some 65, _, _, _, _, _⟩) rfl (fun K hK => ?_) AllReadyH.nil
                go_simp
                refine hK.out _ _ ?_ (fun hHeld => ?_)
                · (try dsimp only); (first | assumption | exact ⟨c2, f3⟩ | exact HZ.1 | exact HZ.2.2 _ | (refine sees2f ?_ c2 c3 f3; (repeat (first | exact bnil _ | refine Below.drew ?_ | refine bnew ?_ _))))
                clear hK K
                try simp only [Act.put, List.setIfInBounds_toArray, List.set_cons_zero, List.set_cons_succ]
                refine wpAnyH_ready (rs := [9]) (by kernel_rfl) (by simp) ?_
                refine AllReadyH.cons (o := ⟨some 58, _, _, _, _, _⟩) rfl (fun K hK => ?_) AllReadyH.nil
                go_simp
                refine hK.out _ _ ?_ (fun hHeld => ?_)
                · (try dsimp only); (first | assumption | exact ⟨c2, f3⟩ | exact HZ.1 | exact HZ.2.2 _ | (refine sees2f ?_ c2 c3 f3; (repeat (first | exact bnil _ | refine Below.drew ?_ | refine bnew ?_ _))))
                clear hK K
                try simp only [Act.put, List.setIfInBounds_toArray, List.set_cons_zero, List.set_cons_succ]
                refine wpAnyH_ready (rs := [17]) (by kernel_rfl) (by simp) ?_
                refine AllReadyH.cons (o := ⟨some 66, _, _, _, _, _⟩) rfl (fun K hK => ?_) AllReadyH.nil
                (refine step_appC elmCN gS_one rfl (.tmp 58) (.tmp 65) rfl (.slice Aj L cj) ((wths (kdOf ks) i j).zip (av j)) rfl (HR.out.row _ (bnew (bnil _) _).drew) [((⟨0, []⟩ : VCall), (⟨none, 0, 0⟩ : SV)), (⟨4, []⟩, ⟨none, 0, 0⟩), (⟨1, []⟩, ⟨none, 0, 0⟩)] y HYE rfl (Sl.drew (Sl.fresh' _ #[_, _, _, _, _, _] 46 2 3 _ (by simp) rfl)) rfl (by rw [HYL.out]; simp only [maxLen]; omega) (by rw [HYL.out]; omega) (Nat.le_trans HR.out.size (bnew (bnil _) _).drew.size) ?_; intro E6 c6 w6 hc6 hc7 HN6 HG6 HO6; have HZ := HR.out.grow _ w6 (bnew (bnil _) _).drew HG6.out)
                refine hK.out _ _ ?_ (fun hHeld => ?_)
                · (try dsimp only); (first | assumption | exact ⟨c2, f3⟩ | exact HZ.1 | exact HZ.2.2 _ | (refine sees2f ?_ c2 c3 f3; (repeat (first | exact bnil _ | refine Below.drew ?_ | refine bnew ?_ _))))
                clear hK K
                try simp only [Act.put, List.setIfInBounds_toArray, List.set_cons_zero, List.set_cons_succ]
                refine wpAnyH_take (i := 18) (oi := ⟨some 67, _, _, _, _, _⟩) (v := ?_) rfl (by kernel_rfl) (by kernel_rfl) (by kernel_rfl) (fun _ _ _ h => h) (Or.inl ⟨by rfl, ?_⟩) (by assumption) ?_
                rotate_left
                · intro w hSw; (try dsimp only at hSw); go_simp <;> with_reducible rfl
                try simp only [Act.put, List.setIfInBounds_toArray, List.set_cons_zero, List.set_cons_succ]
                refine wpAnyH_ready (rs := [19]) (by kernel_rfl) (by simp) ?_
                refine AllReadyH.cons (o := ⟨none, _, _, _, _, _⟩) rfl (fun K hK => ?_) AllReadyH.nil
                go_simp
                refine hK.out _ _ ?_ (fun hHeld => ?_)
                · (try dsimp only); (first | assumption | exact ⟨c2, f3⟩ | exact HZ.1 | exact HZ.2.2 _ | (refine sees2f ?_ c2 c3 f3; (repeat (first | exact bnil _ | refine Below.drew ?_ | refine bnew ?_ _))))
                clear hK K
                try dsimp only [Act.put]
                refine wpAnyH_done (by kernel_rfl) ?_ _
                rotate_left
                all_goals
                  have HF := hid (HX.out.app hj4 (wround false) [⟨none, 0, 0⟩, ⟨none, 0, 0⟩, ⟨none, 0, 0⟩] (bnew (bnil _) _).drew rfl (three_own false) HYE.out (by rw [HAJ.out]; exact HG6.out) (by rw [HAJ.out]; exact HO6.out) HN6.out)
                  have HXE := hid (HF.out.threads (th' := wths (kdOf ks) (i + 1)) (fun q hq => by have h := wths_next (kdOf ks) i q hq; rw [HJ.out, HKB.out] at h; exact h))
                  clear HZ HG6 HO6 HN6 HF
                  go_wp2_with fail
                  go_roundw
                  case rel => exact ⟨i + 1, _, _, by omega, by go_num, HXE⟩
                  case measure => simp [intOf]; omega

            · have i3 : ¬ (i : Int) < (nk : Int) := by omega
              have hkf : kb = false := by rw [hkb2, List.getD_eq_getElem?_getD, List.getElem?_eq_none (by omega)]; rfl
              subst hkf
              clear hkb2
              go_upto_region 12 with fail
              obtain ⟨y, hy⟩ : ∃ y, (wths (kdOf ks) i j).zip (av j) ++ [((⟨0, []⟩ : VCall), (⟨none, 0, 0⟩ : SV)), (⟨4, []⟩, ⟨none, 0, 0⟩), (⟨1, []⟩, ⟨none, 0, 0⟩)] = y := ⟨_, rfl⟩
              have HYE := hid hy
              have HYL := hid (show y.length = L + 3 by rw [← hy, List.length_append, HR.out.len]; rfl)
              clear hy
              refine wp_region_held_drew (S := (fun w' => w'.cell? ⟨X, 2, none⟩ = some (.slice (some ⟨T, 0, none⟩) 4 4) ∧ w'.frozen? ⟨T, j, none⟩ = false)) (by kernel_rfl) ?_ (fun hHeld => ?_)
              · (try dsimp only); (first | assumption | exact ⟨c2, f3⟩ | exact HZ.1 | exact HZ.2.2 _ | (refine sees2f ?_ c2 c3 f3; (repeat (first | exact bnil _ | refine Below.drew ?_ | refine bnew ?_ _))))
              refine wpAnyH_take (i := 0) (oi := ⟨some 49, _, _, _, _, _⟩) (v := ?_) rfl (by kernel_rfl) (by kernel_rfl) (by kernel_rfl) (fun _ _ _ h => h) (Or.inl ⟨by rfl, ?_⟩) (by assumption) ?_
              rotate_left
              · intro w hSw; (try dsimp only at hSw); go_simp <;> with_reducible rfl
              try simp only [Act.put, List.setIfInBounds_toArray, List.set_cons_zero, List.set_cons_succ]
              refine wpAnyH_take (i := 1) (oi := ⟨some 50, _, _, _, _, _⟩) (v := ?_) rfl (by kernel_rfl) (by kernel_rfl) (by kernel_rfl) (fun _ _ _ h => h) (Or.inl ⟨by rfl, ?_⟩) (by assumption) ?_
              rotate_left
              · intro w hSw; (try dsimp only at hSw); go_simp <;> with_reducible rfl
              try simp only [Act.put, List.setIfInBounds_toArray, List.set_cons_zero, List.set_cons_succ]
              refine wpAnyH_take (i := 2) (oi := ⟨some 51, _, _, _, _, _⟩) (v := ?_) rfl (by kernel_rfl) (by kernel_rfl) (by kernel_rfl) (fun _ _ _ h => h) (Or.inl ⟨by rfl, ?_⟩) (by assumption) ?_
              rotate_left
              · intro w hSw; (try dsimp only at hSw); go_simp <;> with_reducible rfl
              try simp only [Act.put, List.setIfInBounds_toArray, List.set_cons_zero, List.set_cons_succ]
              refine wpAnyH_take (i := 3) (oi := ⟨some 52, _, _, _, _, _⟩) (v := ?_) rfl (by kernel_rfl) (by kernel_rfl) (by kernel_rfl) (fun _ _ _ h => h) (Or.inl ⟨by rfl, ?_⟩) (by assumption) ?_
              rotate_left
              · intro w hSw; (try dsimp only at hSw); go_simp <;> with_reducible rfl
              try simp only [Act.put, List.setIfInBounds_toArray, List.set_cons_zero, List.set_cons_succ]
              refine wpAnyH_take (i := 4) (oi := ⟨some 53, _, _, _, _, _⟩) (v := ?_) rfl (by kernel_rfl) (by kernel_rfl) (by kernel_rfl) (fun _ _ _ h => h) (Or.inl ⟨by rfl, ?_⟩) (by assumption) ?_
              rotate_left
              · intro w hSw; (try dsimp only at hSw); go_simp <;> with_reducible rfl
              try simp only [Act.put, List.setIfInBounds_toArray, List.set_cons_zero, List.set_cons_succ]
              refine wpAnyH_take (i := 5) (oi := ⟨some 54, _, _, _, _, _⟩) (v := ?_) rfl (by kernel_rfl) (by kernel_rfl) (by kernel_rfl) (fun _ _ _ h => h) (Or.inl ⟨by rfl, ?_⟩) (by assumption) ?_
              rotate_left
              · intro w hSw; (try dsimp only at hSw); go_simp <;> with_reducible rfl
              try simp only [Act.put, List.setIfInBounds_toArray, List.set_cons_zero, List.set_cons_succ]
              refine wpAnyH_take (i := 6) (oi := ⟨some 55, _, _, _, _, _⟩) (v := ?_) rfl (by kernel_rfl) (by kernel_rfl) (by kernel_rfl) (fun _ _ _ h => h) (Or.inl ⟨by rfl, ?_⟩) (by assumption) ?_
              rotate_left
              · intro w hSw; (try dsimp only at hSw); go_simp <;> with_reducible rfl
              try simp only [Act.put, List.setIfInBounds_toArray, List.set_cons_zero, List.set_cons_succ]
              refine wpAnyH_take (i := 7) (oi := ⟨some 56, _, _, _, _, _⟩) (v := ?_) rfl (by kernel_rfl) (by kernel_rfl) (by kernel_rfl) (fun _ _ _ h => h) (Or.inl ⟨by rfl, ?_⟩) (by assumption) ?_
              rotate_left
              · intro w hSw; (try dsimp only at hSw); go_simp <;> with_reducible rfl
              try simp only [Act.put, List.setIfInBounds_toArray, List.set_cons_zero, List.set_cons_succ]
              refine wpAnyH_take (i := 8) (oi := ⟨some 57, _, _, _, _, _⟩) (v := ?_) rfl (by kernel_rfl) (by kernel_rfl) (by kernel_rfl) (fun _ _ _ h => h) (Or.inl ⟨by rfl, ?_⟩) (by assumption) ?_
              rotate_left
              · intro w hSw; (try dsimp only at hSw); go_simp <;> with_reducible rfl
              try simp only [Act.put, List.setIfInBounds_toArray, List.set_cons_zero, List.set_cons_succ]
              refine wpAnyH_take (i := 10) (oi := ⟨some 59, _, _, _, _, _⟩) (v := ?_) rfl (by kernel_rfl) (by kernel_rfl) (by kernel_rfl) (fun _ _ _ h => h) (Or.inl ⟨by rfl, ?_⟩) (by assumption) ?_
              rotate_left
              · intro w hSw; (try dsimp only at hSw); go_simp <;> with_reducible rfl
              try simp only [Act.put, List.setIfInBounds_toArray, List.set_cons_zero, List.set_cons_succ]
              refine wpAnyH_take (i := 11) (oi := ⟨some 60, _, _, _, _, _⟩) (v := ?_) rfl (by kernel_rfl) (by kernel_rfl) (by kernel_rfl) (fun _ _ _ h => h) (Or.inl ⟨by rfl, ?_⟩) (by assumption) ?_
              rotate_left
              · intro w hSw; (try dsimp only at hSw); go_simp <;> with_reducible rfl
              try simp only [Act.put, List.setIfInBounds_toArray, List.set_cons_zero, List.set_cons_succ]
              refine wpAnyH_take (i := 12) (oi := ⟨some 61, _, _, _, _, _⟩) (v := ?_) rfl (by kernel_rfl) (by kernel_rfl) (by kernel_rfl) (fun _ _ _ h => h) (Or.inl ⟨by rfl, ?_⟩) (by assumption) ?_
              rotate_left
              · intro w hSw; (try dsimp only at hSw); go_simp <;> with_reducible rfl
              try simp only [Act.put, List.setIfInBounds_toArray, List.set_cons_zero, List.set_cons_succ]
              refine wpAnyH_take (i := 13) (oi := ⟨some 62, _, _, _, _, _⟩) (v := ?_) rfl (by kernel_rfl) (by kernel_rfl) (by kernel_rfl) (fun _ _ _ h => h) (Or.inl ⟨by rfl, ?_⟩) (by assumption) ?_
              rotate_left
              · intro w hSw; (try dsimp only at hSw); go_simp <;> with_reducible rfl
              try simp only [Act.put, List.setIfInBounds_toArray, List.set_cons_zero, List.set_cons_succ]
              refine wpAnyH_take (i := 14) (oi := ⟨some 63, _, _, _, _, _⟩) (v := ?_) rfl (by kernel_rfl) (by kernel_rfl) (by kernel_rfl) (fun _ _ _ h => h) (Or.inl ⟨by rfl, ?_⟩) (by assumption) ?_
              rotate_left
              · intro w hSw; (try dsimp only at hSw); go_simp <;> with_reducible rfl
              try simp only [Act.put, List.setIfInBounds_toArray, List.set_cons_zero, List.set_cons_succ]
              refine wpAnyH_take (i := 15) (oi := ⟨some 64, _, _, _, _, _⟩) (v := ?_) rfl (by kernel_rfl) (by kernel_rfl) (by kernel_rfl) (fun _ _ _ h => h) (Or.inl ⟨by rfl, ?_⟩) (by assumption) ?_
              rotate_left
              · intro w hSw; (try dsimp only at hSw); go_simp <;> with_reducible rfl
              try simp only [Act.put, List.setIfInBounds_toArray, List.set_cons_zero, List.set_cons_succ]
              refine wpAnyH_ready (rs := [9, 16]) (by kernel_rfl) (by simp) ?_
              refine AllReadyH.cons (o := ⟨some 58, _, _, _, _, _⟩) rfl (fun K hK => ?_) ?_
              go_simp
              refine hK.out _ _ ?_ (fun hHeld => ?_)
              · (try dsimp only); (first | assumption | exact ⟨c2, f3⟩ | exact HZ.1 | exact HZ.2.2 _ | (refine sees2f ?_ c2 c3 f3; (repeat (first | exact bnil _ | refine Below.drew ?_ | refine bnew ?_ _))))
              clear hK K
              try simp only [Act.put, List.setIfInBounds_toArray, List.set_cons_zero, List.set_cons_succ]
              refine wpAnyH_ready (rs := [16]) (by kernel_rfl) (by simp) ?_
              refine AllReadyH.cons (o := ⟨some 65, _, _, _, _, _⟩) rfl (fun K hK => ?_) AllReadyH.nil
              go_simp
              refine hK.out _ _ ?_ (fun hHeld => ?_)
              · (try dsimp only); (first | assumption | exact ⟨c2, f3⟩ | exact HZ.1 | exact HZ.2.2 _ | (refine sees2f ?_ c2 c3 f3; (repeat (first | exact bnil _ | refine Below.drew ?_ | refine bnew ?_ _))))
              clear hK K
              try simp only [Act.put, List.setIfInBounds_toArray, List.set_cons_zero, List.set_cons_succ]
              refine wpAnyH_ready (rs := [17]) (by kernel_rfl) (by simp) ?_
              refine AllReadyH.cons (o := ⟨some 66, _, _, _, _, _⟩) rfl (fun K hK => ?_) AllReadyH.nil
              (refine step_appC elmCN gS_one rfl (.tmp 58) (.tmp 65) rfl (.slice Aj L cj) ((wths (kdOf ks) i j).zip (av j)) rfl (HR.out.row _ (bnew (bnil _) _).drew) [((⟨0, []⟩ : VCall), (⟨none, 0, 0⟩ : SV)), (⟨4, []⟩, ⟨none, 0, 0⟩), (⟨1, []⟩, ⟨none, 0, 0⟩)] y HYE rfl (Sl.drew (Sl.fresh' _ #[_, _, _, _, _, _] 46 2 3 _ (by simp) rfl)) rfl (by rw [HYL.out]; simp only [maxLen]; omega) (by rw [HYL.out]; omega) (Nat.le_trans HR.out.size (bnew (bnil _) _).drew.size) ?_; intro E6 c6 w6 hc6 hc7 HN6 HG6 HO6; have HZ := HR.out.grow _ w6 (bnew (bnil _) _).drew HG6.out)
              refine hK.out _ _ ?_ (fun hHeld => ?_)
              · (try dsimp only); (first | assumption | exact ⟨c2, f3⟩ | exact HZ.1 | exact HZ.2.2 _ | (refine sees2f ?_ c2 c3 f3; (repeat (first | exact bnil _ | refine Below.drew ?_ | refine bnew ?_ _))))
              clear hK K
              try simp only [Act.put, List.setIfInBounds_toArray, List.set_cons_zero, List.set_cons_succ]
              refine wpAnyH_take (i := 18) (oi := ⟨some 67, _, _, _, _, _⟩) (v := ?_) rfl (by kernel_rfl) (by kernel_rfl) (by kernel_rfl) (fun _ _ _ h => h) (Or.inl ⟨by rfl, ?_⟩) (by assumption) ?_
              rotate_left
              · intro w hSw; (try dsimp only at hSw); go_simp <;> with_reducible rfl
              try simp only [Act.put, List.setIfInBounds_toArray, List.set_cons_zero, List.set_cons_succ]
              refine wpAnyH_ready (rs := [19]) (by kernel_rfl) (by simp) ?_
              refine AllReadyH.cons (o := ⟨none, _, _, _, _, _⟩) rfl (fun K hK => ?_) AllReadyH.nil
              go_simp
              refine hK.out _ _ ?_ (fun hHeld => ?_)
              · (try dsimp only); (first | assumption | exact ⟨c2, f3⟩ | exact HZ.1 | exact HZ.2.2 _ | (refine sees2f ?_ c2 c3 f3; (repeat (first | exact bnil _ | refine Below.drew ?_ | refine bnew ?_ _))))
              clear hK K
              try dsimp only [Act.put]
              refine wpAnyH_done (by kernel_rfl) ?_ _
              rotate_left
              refine AllReadyH.cons (o := ⟨some 65, _, _, _, _, _⟩) rfl (fun K hK => ?_) AllReadyH.nil
              go_simp
              refine hK.out _ _ ?_ (fun hHeld => ?_)
              · (try dsimp only); (first | assumption | exact ⟨c2, f3⟩ | exact HZ.1 | exact HZ.2.2 _ | (refine sees2f ?_ c2 c3 f3; (repeat (first | exact bnil _ | refine Below.drew ?_ | refine bnew ?_ _))))
              clear hK K
              try simp only [Act.put, List.setIfInBounds_toArray, List.set_cons_zero, List.set_cons_succ]
              refine wpAnyH_ready (rs := [9]) (by kernel_rfl) (by simp) ?_
              refine AllReadyH.cons (o := ⟨some 58, _, _, _, _, _⟩) rfl (fun K hK => ?_) AllReadyH.nil
              go_simp
              refine hK.out _ _ ?_ (fun hHeld => ?_)
              · (try dsimp only); (first | assumption | exact ⟨c2, f3⟩ | exact HZ.1 | exact HZ.2.2 _ | (refine sees2f ?_ c2 c3 f3; (repeat (first | exact bnil _ | refine Below.drew ?_ | refine bnew ?_ _))))
              clear hK K
              try simp only [Act.put, List.setIfInBounds_toArray, List.set_cons_zero, List.set_cons_succ]
              refine wpAnyH_ready (rs := [17]) (by kernel_rfl) (by simp) ?_
              refine AllReadyH.cons (o := ⟨some 66, _, _, _, _, _⟩) rfl (fun K hK => ?_) AllReadyH.nil
              (refine step_appC elmCN gS_one rfl (.tmp 58) (.tmp 65) rfl (.slice Aj L cj) ((wths (kdOf ks) i j).zip (av j)) rfl (HR.out.row _ (bnew (bnil _) _).drew) [((⟨0, []⟩ : VCall), (⟨none, 0, 0⟩ : SV)), (⟨4, []⟩, ⟨none, 0, 0⟩), (⟨1, []⟩, ⟨none, 0, 0⟩)] y HYE rfl (Sl.drew (Sl.fresh' _ #[_, _, _, _, _, _] 46 2 3 _ (by simp) rfl)) rfl (by rw [HYL.out]; simp only [maxLen]; omega) (by rw [HYL.out]; omega) (Nat.le_trans HR.out.size (bnew (bnil _) _).drew.size) ?_; intro E6 c6 w6 hc6 hc7 HN6 HG6 HO6; have HZ := HR.out.grow _ w6 (bnew (bnil _) _).drew HG6.out)
              refine hK.out _ _ ?_ (fun hHeld => ?_)
              · (try dsimp only); (first | assumption | exact ⟨c2, f3⟩ | exact HZ.1 | exact HZ.2.2 _ | (refine sees2f ?_ c2 c3 f3; (repeat (first | exact bnil _ | refine Below.drew ?_ | refine bnew ?_ _))))
              clear hK K
              try simp only [Act.put, List.setIfInBounds_toArray, List.set_cons_zero, List.set_cons_succ]
              refine wpAnyH_take (i := 18) (oi := ⟨some 67, _, _, _, _, _⟩) (v := ?_) rfl (by kernel_rfl) (by kernel_rfl) (by kernel_rfl) (fun _ _ _ h => h) (Or.inl ⟨by rfl, ?_⟩) (by assumption) ?_
              rotate_left
              · intro w hSw; (try dsimp only at hSw); go_simp <;> with_reducible rfl
              try simp only [Act.put, List.setIfInBounds_toArray, List.set_cons_zero, List.set_cons_succ]
              refine wpAnyH_ready (rs := [19]) (by kernel_rfl) (by simp) ?_
              refine AllReadyH.cons (o := ⟨none, _, _, _, _, _⟩) rfl (fun K hK => ?_) AllReadyH.nil
              go_simp
              refine hK.out _ _ ?_ (fun hHeld => ?_)
              · (try dsimp only); (first | assumption | exact ⟨c2, f3⟩ | exact HZ.1 | exact HZ.2.2 _ | (refine sees2f ?_ c2 c3 f3; (repeat (first | exact bnil _ | refine Below.drew ?_ | refine bnew ?_ _))))
              clear hK K
              try dsimp only [Act.put]
              refine wpAnyH_done (by kernel_rfl) ?_ _
              rotate_left
              all_goals
                have HF := hid (HX.out.app hj4 (wround false) [⟨none, 0, 0⟩, ⟨none, 0, 0⟩, ⟨none, 0, 0⟩] (bnew (bnil _) _).drew rfl (three_own false) HYE.out (by rw [HAJ.out]; exact HG6.out) (by rw [HAJ.out]; exact HO6.out) HN6.out)
                have HXE := hid (HF.out.threads (th' := wths (kdOf ks) (i + 1)) (fun q hq => by have h := wths_next (kdOf ks) i q hq; rw [HJ.out, HKB.out] at h; exact h))
                clear HZ HG6 HO6 HN6 HF
                go_wp2_with fail
                go_roundw
                case rel => exact ⟨i + 1, _, _, by omega, by go_num, HXE⟩
                case measure => simp [intOf]; omega

          · obtain rfl : i = 24 := by omega
            have i2 : ¬ (((24 : Nat) : Int) < 24) := by omega
            have HX := hid (HX.out.threads (th' := fun j => wrows (kdOf ks) j 6) (fun q hq => wths_all (kdOf ks) hq))
            have HMA := hid (rwl_at (m := rwlMach (kdOf ks) work) (kd := kdOf ks) HX.out.mn (by omega) rfl rfl (fun j hj => ⟨by show (wrows (kdOf ks) j 6).length ≤ 20; rw [wrows_len]; omega, wrows_mem (kdOf ks) j 6⟩))
            have y0 : wr.cell? ⟨X, 0, none⟩ = some (.slice AW 1 cW) := HX.out.hx.cell 0
            have y1 : wr.cell? ⟨X, 1, none⟩ = some (.slice (some ⟨Cb, 0, none⟩) 5 5) := HX.out.hx.cell 1
            have y2 : wr.cell? ⟨X, 2, none⟩ = some (.slice (some ⟨T, 0, none⟩) 4 4) := HX.out.hx.cell 2
            have HTR := hid (HT.out.below HX.out.below)
            have hXR : X ≠ w.heap.size := fun e => by
              have z4 : wr.cell? ⟨w.heap.size, 1, none⟩ = some (.slice none 0 0) := HX.out.hr.cell 1
              rw [e] at y1
              rw [z4] at y1
              injection y1 with y1; injection y1 with y1; cases y1
            go_wp2_with fail
            refine (run_may AW (some ⟨Cb, 0, none⟩) (some ⟨T, 0, none⟩) 1 cW 5 5 4 4 _ _ (by decide) (by decide) (by decide) HTR.out HMA.out).mono ?_
            rintro e w4 ⟨rfl, b4⟩
            have HX4 := hid (HX.out.step b4)
            clear b4 y0 y1 y2 HX HTR HMA
            go_wp2_with fail
            go_loopw [10, 11] (fun o v wx => ∃ (k : Nat), k ≤ 4 ∧ v = .int .i64 k ∧ o = .bool true ∧ Hid (Below w4.heap.size w4 wx)) (fun _ v _ => 4 - (intOf v).toNat)
            case atStart => exact ⟨0, Nat.zero_le _, rfl, rfl, hid (bnil _)⟩
            case round =>
              obtain ⟨k, hk4, rfl, rfl, BZ⟩ := hrel
              have HXZ := hid (HX4.out.step BZ.out)
              have y1 : wr.cell? ⟨X, 1, none⟩ = some (.slice (some ⟨Cb, 0, none⟩) 5 5) := HXZ.out.hx.cell 1
              by_cases h4 : k < 4
              · have i4 : (k : Int) < 4 := by omega
                obtain ⟨Ac, nc, cc, hcell, hnc⟩ : ∃ (Ac : Option Addr) (nc cc : Nat), wr.cell? ⟨Cb, k, none⟩ = some (.slice Ac nc cc) ∧ 0 < nc := by
                  have h2 := HXZ.out.mn.os k (by omega)
                  obtain ⟨A, c, e, _⟩ := own_form h2
                  refine ⟨A, _, c, by rw [HXZ.out.mn.cb.cell k, arrN_at cv (by omega : k < 5), e], ?_⟩
                  rcases (show k = 0 ∨ k = 1 ∨ k = 2 ∨ k = 3 by omega) with rfl | rfl | rfl | rfl
                  · show 0 < readInCode.length; decide
                  · show 0 < readOutCode.length; decide
                  · show 0 < writeInCode.length; decide
                  · show 0 < writeOutCode.length; decide
                have i5 : (0 : Int) < (nc : Int) := by omega
                go_wp2_with fail
                go_roundw
                case rel => first | exact ⟨k + 1, by omega, by go_num, rfl, BZ⟩ | exact ⟨k + 1, by omega, by go_num, by simp [i5], BZ⟩ | exact ⟨k + 1, by omega, by go_num⟩
                case measure => simp [intOf]; omega
              · obtain rfl : k = 4 := by omega
                have i4 : ¬ (((4 : Nat) : Int) < 4) := by omega
                have y0 : wr.cell? ⟨X, 0, none⟩ = some (.slice AW 1 cW) := HXZ.out.hx.cell 0
                have y2 : wr.cell? ⟨X, 2, none⟩ = some (.slice (some ⟨T, 0, none⟩) 4 4) := HXZ.out.hx.cell 2
                have hz0 := HXZ.out.hr.frozen 0
                have hz1 := HXZ.out.hr.frozen 1
                have hz2 := HXZ.out.hr.frozen 2
                have hy0 := HXZ.out.hr.cell 0
                have hy1 := HXZ.out.hr.cell 1
                have hy2 := HXZ.out.hr.cell 2
                go_wp2_with fail
                obtain ⟨q0, q1, q2⟩ := set3N HXZ.out.hr (.slice AW 1 cW) (.slice (some ⟨Cb, 0, none⟩) 5 5) (.slice (some ⟨T, 0, none⟩) 4 4)
                refine bodyPost_ret (v := .tuple #[.agg #[.slice AW 1 cW, .slice (some ⟨Cb, 0, none⟩) 5 5, .slice (some ⟨T, 0, none⟩) 4 4], .bool true]) (by simp [results, Tryd.results28, go_sem, q0, q1, q2]) rfl ?_
                exact ⟨AW, cW, Cb, T, cv, tv, av, rfl, own_res HXZ.out.own HXZ.out.hr (by decide) _ _ _, HXZ.out.mn.res HXZ.out.hr _ _ _, ((HXZ.out.below.setCell (p := ⟨w.heap.size, 0, none⟩) (Nat.le_refl _) _).setCell (p := ⟨w.heap.size, 1, none⟩) (Nat.le_refl _) _).setCell (p := ⟨w.heap.size, 2, none⟩) (Nat.le_refl _) _⟩
end Go.Proofs.YtnoinojhocicjaaDoor
