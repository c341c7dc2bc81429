/-
  MachineOf: what it builds; its first region.
-/
import Derived.Test.YtljdnbdmfhcmpaaDoorInv
import Derived.Test.YtljdnbdmfhcmpaaDoorVmPre
import Derived.Test.YtljdnbdmfhcmpaaDoorMachMem
namespace Go.Proofs.YtljdnbdmfhcmpaaDoor
open Go.RowKit
set_option linter.unusedVariables false

def mcall (cs : List Int) (i : Nat) : VCall := ⟨pk (cs.getD i 0) 2, [(pk (cs.getD i 0) 7 : Int), (i : Int)]⟩
/-- the calls of thread j among the first k -/
def mthr (cs : List Int) : Nat → Nat → List VCall
  | 0, _ => []
  | k + 1, j => if k % 3 = j then mthr cs k j ++ [mcall cs k] else mthr cs k j
def machOf (ls ms : List Op5) (cs : List Int) : Mach := ⟨List.replicate 8 0, [codeOf ls 12, codeOf ms 12], [mthr cs (min 12 cs.length) 0, mthr cs (min 12 cs.length) 1, mthr cs (min 12 cs.length) 2]⟩
theorem mthr_len (cs : List Int) : ∀ (k j : Nat), (mthr cs k j).length ≤ k
  | 0, _ => Nat.le_refl _
  | k + 1, j => by
    have := mthr_len cs k j
    unfold mthr
    split
    · rw [List.length_append, List.length_singleton]; omega
    · omega
/-- the first region's state -/
structure M1 (w0 : World) (A : Option Addr) (n c : Nat) (A2 : Option Addr) (n2 c2 : Nat) (ls ms : List Op5) (L : Nat → Bool) (x7 x10 x11 x12 x13 x14 x15 x16 x17 : Value) (w : World) : Prop where
  b : Below w0.heap.size w0 w
  f0 : L 0 = true → ∃ b, x10 = .slice (some ⟨b, 0, none⟩) 8 8 ∧ w0.heap.size ≤ b ∧ Blk w b 3 #[.int .i64 0, .int .i64 0, .int .i64 0, .int .i64 0, .int .i64 0, .int .i64 0, .int .i64 0, .int .i64 0]
  f1 : L 1 = true → x11 = .slice A n c
  f2 : L 2 = true → w.ownsRow w0.heap.size 35 5 x12 (codeOf ls 12).length ((codeOf ls 12).flatMap gO)
  f3 : L 3 = true → x13 = .slice A2 n2 c2
  f4 : L 4 = true → w.ownsRow w0.heap.size 35 5 x14 (codeOf ms 12).length ((codeOf ms 12).flatMap gO)
  f5 : L 5 = true → ∃ b, x15 = .slice (some ⟨b, 0, none⟩) 2 2 ∧ w0.heap.size ≤ b ∧ Blk w b 24 #[x12, x14]
  f6 : L 6 = true → ∃ b, x16 = .slice (some ⟨b, 0, none⟩) 3 3 ∧ w0.heap.size ≤ b ∧ Blk w b 56 #[.slice none 0 0, .slice none 0 0, .slice none 0 0]
  f7 : L 7 = true → x17 = .agg #[x10, x15, x16]
  f8 : L 8 = true → L 9 = false → ∃ b, x7 = .pointer (some ⟨b, 0, none⟩) ∧ w0.heap.size ≤ b ∧ Blk w b 44 #[.slice none 0 0, .slice none 0 0, .slice none 0 0]
  f9 : L 9 = true → ∃ b, x7 = .pointer (some ⟨b, 0, none⟩) ∧ w0.heap.size ≤ b ∧ Blk w b 44 #[x10, x15, x16]
section
variable {w0 : World} {A : Option Addr} {n c : Nat} {A2 : Option Addr} {n2 c2 : Nat} {ls ms : List Op5} {L : Nat → Bool} {x7 x10 x11 x12 x13 x14 x15 x16 x17 : Value} {w w' : World}
theorem M1.below (h : M1 w0 A n c A2 n2 c2 ls ms L x7 x10 x11 x12 x13 x14 x15 x16 x17 w) (hb : Below w.heap.size w w') :
    M1 w0 A n c A2 n2 c2 ls ms L x7 x10 x11 x12 x13 x14 x15 x16 x17 w' where
  b := bgo h.b hb
  f0 := fun e => by obtain ⟨b, h1, h2, h3⟩ := h.f0 e; exact ⟨b, h1, h2, h3.below' hb⟩
  f1 := h.f1
  f2 := fun e => own_below (h.f2 e) hb
  f3 := h.f3
  f4 := fun e => own_below (h.f4 e) hb
  f5 := fun e => by obtain ⟨b, h1, h2, h3⟩ := h.f5 e; exact ⟨b, h1, h2, h3.below' hb⟩
  f6 := fun e => by obtain ⟨b, h1, h2, h3⟩ := h.f6 e; exact ⟨b, h1, h2, h3.below' hb⟩
  f7 := h.f7
  f8 := fun e e' => by obtain ⟨b, h1, h2, h3⟩ := h.f8 e e'; exact ⟨b, h1, h2, h3.below' hb⟩
  f9 := fun e => by obtain ⟨b, h1, h2, h3⟩ := h.f9 e; exact ⟨b, h1, h2, h3.below' hb⟩
/-- the last operation's store -/
theorem M1.store {X : Nat} {L' : Nat → Bool} {u v y : Value} (h : M1 w0 A n c A2 n2 c2 ls ms L (.pointer (some ⟨X, 0, none⟩)) u x11 x12 x13 x14 v y x17 w) (hX : w0.heap.size ≤ X)
    (hb : Blk w X 44 #[.slice none 0 0, .slice none 0 0, .slice none 0 0]) (hL : ∀ i, i ≠ 9 → L' i = L i) (h9 : L' 9 = true) :
    M1 w0 A n c A2 n2 c2 ls ms L' (.pointer (some ⟨X, 0, none⟩)) u x11 x12 x13 x14 v y x17 (((w.setCell ⟨X, 0, none⟩ u).setCell ⟨X, 1, none⟩ v).setCell ⟨X, 2, none⟩ y) := by
  have hC : Chg (fun k => k = X) w (((w.setCell ⟨X, 0, none⟩ u).setCell ⟨X, 1, none⟩ v).setCell ⟨X, 2, none⟩ y) :=
    (((Chg.refl (fun k => k = X) w).setCell (p := ⟨X, 0, none⟩) (fun _ => rfl) _).setCell (p := ⟨X, 1, none⟩) (fun _ => rfl) _).setCell (p := ⟨X, 2, none⟩) (fun _ => rfl) _
  have bk : ∀ {g t : Nat} {cs : Array Value}, t ≠ 44 → Blk w g t cs → Blk (((w.setCell ⟨X, 0, none⟩ u).setCell ⟨X, 1, none⟩ v).setCell ⟨X, 2, none⟩ y) g t cs := fun h1 h2 => hC.blk h2 fun e => by subst e; exact h1 (blk_ty h2 hb)
  have ok : ∀ {B e sz : Nat} {v' : Value} {n : Nat} {xs : List Value}, e ≠ 44 → w.ownsRow B e sz v' n xs → (((w.setCell ⟨X, 0, none⟩ u).setCell ⟨X, 1, none⟩ v).setCell ⟨X, 2, none⟩ y).ownsRow B e sz v' n xs := fun h1 h2 => own_chg h2 hC fun k hk e => own_ne_blk h2 hb h1 (by rw [hk, e])
  have e0 := hL 0 (by decide); have e1 := hL 1 (by decide); have e2 := hL 2 (by decide); have e3 := hL 3 (by decide); have e4 := hL 4 (by decide)
  have e5 := hL 5 (by decide); have e6 := hL 6 (by decide); have e7 := hL 7 (by decide)
  refine ⟨((h.b.setCell (p := ⟨X, 0, none⟩) hX _).setCell (p := ⟨X, 1, none⟩) hX _).setCell (p := ⟨X, 2, none⟩) hX _, ?_, ?_, ?_, ?_, ?_, ?_, ?_, ?_, ?_, ?_⟩
  · rw [e0]; intro e; obtain ⟨b, h1, h2, h3⟩ := h.f0 e; exact ⟨b, h1, h2, bk (by decide) h3⟩
  · rw [e1]; exact h.f1
  · rw [e2]; intro e; exact ok (by decide) (h.f2 e)
  · rw [e3]; exact h.f3
  · rw [e4]; intro e; exact ok (by decide) (h.f4 e)
  · rw [e5]; intro e; obtain ⟨b, h1, h2, h3⟩ := h.f5 e; exact ⟨b, h1, h2, bk (by decide) h3⟩
  · rw [e6]; intro e; obtain ⟨b, h1, h2, h3⟩ := h.f6 e; exact ⟨b, h1, h2, bk (by decide) h3⟩
  · rw [e7]; exact h.f7
  · intro _ e; rw [h9] at e; cases e
  · intro _; exact ⟨X, rfl, hX, ((hb.set_ 0 u).set_ 1 v).set_ 2 y⟩
end
theorem elmC : Elm Tryd.prog 56 59 2 32 := elm_of (z := .agg #[.int .i64 0, .slice none 0 0]) Tryd.underlying56 (by kernel_rfl) rfl (by decide)
theorem mthr_upd (cs : List Int) (k : Nat) : upd (mthr cs k) (k % 3) (mthr cs k (k % 3) ++ [mcall cs k]) = mthr cs (k + 1) := by
  funext j
  unfold upd
  rw [show mthr cs (k + 1) j = if k % 3 = j then mthr cs k j ++ [mcall cs k] else mthr cs k j from rfl]
  by_cases h : j = k % 3
  · subst h; simp
  · rw [if_neg h, if_neg (fun e => h e.symm)]
theorem mk8 (w : World) : (Instr.makeSlice 23 (.int .i64 8) (.int .i64 8)).run Tryd.prog w = .ok (.slice (some ⟨w.heap.size, 0, none⟩) 8 8) (w.alloc (.cells #[.int .i64 0, .int .i64 0, .int .i64 0, .int .i64 0, .int .i64 0, .int .i64 0, .int .i64 0, .int .i64 0] 3)) := by
  have h := run_make_row' (P := Tryd.prog) 23 3 (.int .i64 0) 8 Tryd.underlying23 (by kernel_rfl) rfl .i64 .i64 8 (by omega) (by omega) w
  rw [show madeCells #[Value.int .i64 0] 8 = #[.int .i64 0, .int .i64 0, .int .i64 0, .int .i64 0, .int .i64 0, .int .i64 0, .int .i64 0, .int .i64 0] from by apply Array.ext'; rw [Go.toList_madeCells_one]; rfl] at h
  exact h
theorem mk3 (w : World) : (Instr.makeSlice 42 (.int .i64 3) (.int .i64 3)).run Tryd.prog w = .ok (.slice (some ⟨w.heap.size, 0, none⟩) 3 3) (w.alloc (.cells #[.slice none 0 0, .slice none 0 0, .slice none 0 0] 56)) := by
  have h := run_make_row' (P := Tryd.prog) 42 56 (.slice none 0 0) 24 Tryd.underlying42 (by kernel_rfl) rfl .i64 .i64 3 (by omega) (by omega) w
  rw [show madeCells #[Value.slice none 0 0] 3 = #[.slice none 0 0, .slice none 0 0, .slice none 0 0] from by apply Array.ext'; rw [Go.toList_madeCells_one]; rfl] at h
  exact h
theorem ML.res {B : Nat} {w : World} {Wb Cb T R : Nat} {c1 c2 : Value} {tv : Nat → Value} {k1 k2 : List Op5} {th : Nat → List VCall} {av : Nat → List SV} (h : ML B w Wb Cb T c1 c2 tv k1 k2 th av) {cs : Array Value} (hR : Blk w R 44 cs) (a b c : Value) :
    ML B (((w.setCell ⟨R, 0, none⟩ a).setCell ⟨R, 1, none⟩ b).setCell ⟨R, 2, none⟩ c) Wb Cb T c1 c2 tv k1 k2 th av := by
  have hC : Chg (fun k => k = R) w (((w.setCell ⟨R, 0, none⟩ a).setCell ⟨R, 1, none⟩ b).setCell ⟨R, 2, none⟩ c) :=
    (((Chg.refl (fun k => k = R) w).setCell (p := ⟨R, 0, none⟩) (fun _ => rfl) _).setCell (p := ⟨R, 1, none⟩) (fun _ => rfl) _).setCell (p := ⟨R, 2, none⟩) (fun _ => rfl) _
  have bk : ∀ {g t : Nat} {cs' : Array Value}, t ≠ 44 → Blk w g t cs' → Blk (((w.setCell ⟨R, 0, none⟩ a).setCell ⟨R, 1, none⟩ b).setCell ⟨R, 2, none⟩ c) g t cs' := fun h1 h2 => hC.blk h2 fun e => by subst e; exact h1 (blk_ty h2 hR)
  have ok : ∀ {B e sz : Nat} {v' : Value} {n : Nat} {xs : List Value}, e ≠ 44 → w.ownsRow B e sz v' n xs → (((w.setCell ⟨R, 0, none⟩ a).setCell ⟨R, 1, none⟩ b).setCell ⟨R, 2, none⟩ c).ownsRow B e sz v' n xs := fun h1 h2 => own_chg h2 hC fun k hk e => own_ne_blk h2 hR h1 (by rw [hk, e])
  exact ⟨h.geW, h.geC, h.geT, bk (by decide) h.wb, bk (by decide) h.cb, bk (by decide) h.tb, ok (by decide) h.o1, ok (by decide) h.o2, fun j hj => ⟨(h.rows j hj).1, ok (by decide) (h.rows j hj).2.1, fun k c v hk hv => ok (by decide) ((h.rows j hj).2.2 k c v hk hv)⟩, h.dist⟩
theorem set3 {w : World} {R : Nat} {t : TypeId} {x y z : Value} (hR : Blk w R t #[x, y, z]) (a b c : Value) : (((w.setCell ⟨R, 0, none⟩ a).setCell ⟨R, 1, none⟩ b).setCell ⟨R, 2, none⟩ c).cell? ⟨R, 0, none⟩ = some a ∧ (((w.setCell ⟨R, 0, none⟩ a).setCell ⟨R, 1, none⟩ b).setCell ⟨R, 2, none⟩ c).cell? ⟨R, 1, none⟩ = some b ∧ (((w.setCell ⟨R, 0, none⟩ a).setCell ⟨R, 1, none⟩ b).setCell ⟨R, 2, none⟩ c).cell? ⟨R, 2, none⟩ = some c :=
  ⟨(((hR.set_ 0 a).set_ 1 b).set_ 2 c).cell 0, (((hR.set_ 0 a).set_ 1 b).set_ 2 c).cell 1, (((hR.set_ 0 a).set_ 1 b).set_ 2 c).cell 2⟩
theorem below3 {w wr : World} (h : Below w.heap.size w wr) (a b c : Value) : Below w.heap.size w (((wr.setCell ⟨w.heap.size, 0, none⟩ a).setCell ⟨w.heap.size, 1, none⟩ b).setCell ⟨w.heap.size, 2, none⟩ c) :=
  ((h.setCell (p := ⟨w.heap.size, 0, none⟩) (Nat.le_refl _) a).setCell (p := ⟨w.heap.size, 1, none⟩) (Nat.le_refl _) b).setCell (p := ⟨w.heap.size, 2, none⟩) (Nat.le_refl _) c
theorem mthr_updj {cs : List Int} {k j : Nat} (hj : k % 3 = j) : upd (mthr cs k) j (mthr cs k j ++ [mcall cs k]) = mthr cs (k + 1) := by subst hj; exact mthr_upd cs k
/-- what MachineOf returns -/
def MachPost (w : World) (ls ms : List Op5) (cs : List Int) (e : Ending) (w' : World) : Prop :=
  ∃ (Wb Cb T : Nat) (c1 c2 : Value) (tv : Nat → Value) (av : Nat → List SV), e = .returned (.agg #[.slice (some ⟨Wb, 0, none⟩) 8 8, .slice (some ⟨Cb, 0, none⟩) 2 2, .slice (some ⟨T, 0, none⟩) 3 3]) ∧
    ML w.heap.size w' Wb Cb T c1 c2 tv (codeOf ls 12) (codeOf ms 12) (mthr cs (min 12 cs.length)) av ∧ Below w.heap.size w w'
set_option maxHeartbeats 2000000 in
set_option maxRecDepth 100000 in
theorem machine_of (A : Option Addr) (n c : Nat) (A2 : Option Addr) (n2 c2 : Nat) (D : Option Addr) (r s : Nat) (ls ms : List Op5) (cs : List Int) (w : World) (hn : n ≤ c) (hc : c ≤ maxLen) (hn2 : n2 ≤ c2) (hc2 : c2 ≤ maxLen) (hr : r ≤ maxLen) (hl : Lines w A n ls) (hm : Lines w A2 n2 ms) (hD : Sl w 1 D r (ints cs)) (hds : ∀ x ∈ cs, -9223372036854775808 ≤ x ∧ x ≤ 9223372036854775807) :
    Calls Tryd.prog 18 #[.slice A n c, .slice A2 n2 c2, .slice D r s] w fun e w' => MachPost w ls ms cs e w' := by
  have HL := hid hl; have HM := hid hm; have HD := hid hD; have HDS := hid hds; have HRL := hid hD.leni
  clear hl hm hD hds
  go_enter Tryd.func18, Tryd.ntmps18
  go_upto_region 1 with fail
  obtain ⟨w0, hw0⟩ : ∃ w0, w.alloc (.cells #[.slice none 0 0, .slice none 0 0, .slice none 0 0] 44) = w0 := ⟨_, rfl⟩
  rw [hw0]
  have B0 := hid (show Below w.heap.size w w0 by rw [← hw0]; exact bnew (bnil w) _)
  have RB := hid (show Blk w0 w.heap.size 44 #[.slice none 0 0, .slice none 0 0, .slice none 0 0] by rw [← hw0]; exact Blk.new w _ _)
  clear hw0
  have B00 := B0.out.size
  refine wp_region_inv (by kernel_rfl) (fun a0 L a wr => ∃ x7 x10 x11 x12 x13 x14 x15 x16 x17, a = (((((((((a0.put (some 7) x7).put (some 10) x10).put (some 11) x11).put (some 12) x12).put (some 13) x13).put (some 14) x14).put (some 15) x15).put (some 16) x16).put (some 17) x17) ∧ M1 w0 A n c A2 n2 c2 ls ms L x7 x10 x11 x12 x13 x14 x15 x16 x17 wr) (by kernel_rfl) ?_ ?_ ?_
  · exact ⟨undef, undef, undef, undef, undef, undef, undef, undef, undef, by kernel_rfl, ⟨(bnil w0).drew, (fun h => by cases h), (fun h => by cases h), (fun h => by cases h), (fun h => by cases h), (fun h => by cases h), (fun h => by cases h), (fun h => by cases h), (fun h => by cases h), (fun h => by cases h), (fun h => by cases h)⟩⟩
  · intro j hj L b wr hR hLj hcl hpre
    obtain ⟨x7, x10, x11, x12, x13, x14, x15, x16, x17, rfl, H⟩ := hR
    have hj' : j = 0 ∨ j = 1 ∨ j = 2 ∨ j = 3 ∨ j = 4 ∨ j = 5 ∨ j = 6 ∨ j = 7 ∨ j = 8 ∨ j = 9 := by
      have : j < 10 := hj
      omega
    have lt0 := H.b.size
    rcases hj' with rfl | rfl | rfl | rfl | rfl | rfl | rfl | rfl | rfl | rfl
    · have h7 : L 7 ≠ true := fun e => by have := hcl 7 0 (by kernel_rfl) e; rw [hLj] at this; cases this
      have h9 : L 9 ≠ true := fun e => h7 (hcl 9 7 (by kernel_rfl) e)
      clear hcl hpre
      refine wpOp_at rfl rfl fun K hK => ?_
      have hmk := mk8 wr
      go_simp
      have Hb := H.below (bnew (bnil wr) (.cells #[.int .i64 0, .int .i64 0, .int .i64 0, .int .i64 0, .int .i64 0, .int .i64 0, .int .i64 0, .int .i64 0] 3))
      exact hK _ _ ⟨x7, .slice (some ⟨wr.heap.size, 0, none⟩) 8 8, x11, x12, x13, x14, x15, x16, x17, by kernel_rfl, ⟨Hb.b, fun _ => ⟨wr.heap.size, rfl, lt0, Blk.new wr _ _⟩, Hb.f1, Hb.f2, Hb.f3, Hb.f4, Hb.f5, Hb.f6, fun e => absurd e h7, Hb.f8, fun e => absurd e h9⟩⟩
    · clear hcl hpre
      refine wpOp_at rfl rfl fun K hK => ?_
      go_simp
      exact hK _ _ ⟨x7, x10, .slice A n c, x12, x13, x14, x15, x16, x17, by kernel_rfl, ⟨H.b, H.f0, fun _ => rfl, H.f2, H.f3, H.f4, H.f5, H.f6, H.f7, H.f8, H.f9⟩⟩
    · have h5 : L 5 ≠ true := fun e => by have := hcl 5 2 (by kernel_rfl) e; rw [hLj] at this; cases this
      have h1 := H.f1 (hpre 1 (by kernel_rfl))
      clear hcl hpre
      refine wpOp_at rfl rfl fun K hK => ?_
      go_simp
      subst h1
      refine (code_of A n c 12 ls wr hn hc (by omega) (HL.out.below (bgo B0.out H.b))).mono ?_
      rintro e w1 ⟨v, rfl, ho⟩
      have Hb := H.below ho.below
      refine hK _ _ ⟨x7, x10, .slice A n c, v, x13, x14, x15, x16, x17, by kernel_rfl, ⟨Hb.b, Hb.f0, Hb.f1, fun _ => own_lower ho.own lt0, Hb.f3, Hb.f4, fun e => absurd e h5, Hb.f6, Hb.f7, Hb.f8, Hb.f9⟩⟩
    · clear hcl hpre
      refine wpOp_at rfl rfl fun K hK => ?_
      go_simp
      exact hK _ _ ⟨x7, x10, x11, x12, .slice A2 n2 c2, x14, x15, x16, x17, by kernel_rfl, ⟨H.b, H.f0, H.f1, H.f2, fun _ => rfl, H.f4, H.f5, H.f6, H.f7, H.f8, H.f9⟩⟩
    · have h5 : L 5 ≠ true := fun e => by have := hcl 5 4 (by kernel_rfl) e; rw [hLj] at this; cases this
      have h1 := H.f3 (hpre 3 (by kernel_rfl))
      clear hcl hpre
      refine wpOp_at rfl rfl fun K hK => ?_
      go_simp
      subst h1
      refine (code_of A2 n2 c2 12 ms wr hn2 hc2 (by omega) (HM.out.below (bgo B0.out H.b))).mono ?_
      rintro e w1 ⟨v, rfl, ho⟩
      have Hb := H.below ho.below
      refine hK _ _ ⟨x7, x10, x11, x12, .slice A2 n2 c2, v, x15, x16, x17, by kernel_rfl, ⟨Hb.b, Hb.f0, Hb.f1, Hb.f2, Hb.f3, fun _ => own_lower ho.own lt0, fun e => absurd e h5, Hb.f6, Hb.f7, Hb.f8, Hb.f9⟩⟩
    · have h7 : L 7 ≠ true := fun e => by have := hcl 7 5 (by kernel_rfl) e; rw [hLj] at this; cases this
      have h9 : L 9 ≠ true := fun e => h7 (hcl 9 7 (by kernel_rfl) e)
      obtain ⟨A3, k3, e3, _⟩ := own_form (H.f2 (hpre 2 (by kernel_rfl)))
      obtain ⟨A4, k4, e4, _⟩ := own_form (H.f4 (hpre 4 (by kernel_rfl)))
      clear hcl hpre
      refine wpOp_at rfl rfl fun K hK => ?_
      subst e3; subst e4
      go_simp
      have Hb := H.below (bnew (bnil wr) (.cells #[.slice A3 (codeOf ls 12).length k3, .slice A4 (codeOf ms 12).length k4] 24))
      exact hK _ _ ⟨x7, x10, x11, _, x13, _, .slice (some ⟨wr.heap.size, 0, none⟩) 2 2, x16, x17, by kernel_rfl, ⟨Hb.b, Hb.f0, Hb.f1, Hb.f2, Hb.f3, Hb.f4, fun _ => ⟨wr.heap.size, rfl, lt0, Blk.new wr _ _⟩, Hb.f6, fun e => absurd e h7, Hb.f8, fun e => absurd e h9⟩⟩
    · have h7 : L 7 ≠ true := fun e => by have := hcl 7 6 (by kernel_rfl) e; rw [hLj] at this; cases this
      have h9 : L 9 ≠ true := fun e => h7 (hcl 9 7 (by kernel_rfl) e)
      clear hcl hpre
      refine wpOp_at rfl rfl fun K hK => ?_
      have hmk := mk3 wr
      go_simp
      have Hb := H.below (bnew (bnil wr) (.cells #[.slice none 0 0, .slice none 0 0, .slice none 0 0] 56))
      exact hK _ _ ⟨x7, x10, x11, x12, x13, x14, x15, .slice (some ⟨wr.heap.size, 0, none⟩) 3 3, x17, by kernel_rfl, ⟨Hb.b, Hb.f0, Hb.f1, Hb.f2, Hb.f3, Hb.f4, Hb.f5, fun _ => ⟨wr.heap.size, rfl, lt0, Blk.new wr _ _⟩, fun e => absurd e h7, Hb.f8, fun e => absurd e h9⟩⟩
    · have h9 : L 9 ≠ true := fun e => by have := hcl 9 7 (by kernel_rfl) e; rw [hLj] at this; cases this
      obtain ⟨b1, e1, _⟩ := H.f0 (hpre 0 (by kernel_rfl))
      obtain ⟨b2, e2, _⟩ := H.f5 (hpre 5 (by kernel_rfl))
      obtain ⟨b3, e3, _⟩ := H.f6 (hpre 6 (by kernel_rfl))
      clear hcl hpre
      refine wpOp_at rfl rfl fun K hK => ?_
      subst e1; subst e2; subst e3
      go_simp
      exact hK _ _ ⟨x7, _, x11, x12, x13, x14, _, _, _, by kernel_rfl, ⟨H.b, H.f0, H.f1, H.f2, H.f3, H.f4, H.f5, H.f6, fun _ => rfl, H.f8, fun e => absurd e h9⟩⟩
    · have h9 : L 9 ≠ true := fun e => by have := hcl 9 8 (by kernel_rfl) e; rw [hLj] at this; cases this
      clear hcl hpre
      refine wpOp_at rfl rfl fun K hK => ?_
      go_simp
      have Hb := H.below (bnew (bnil wr) (.cells #[.slice none 0 0, .slice none 0 0, .slice none 0 0] 44))
      exact hK _ _ ⟨.pointer (some ⟨wr.heap.size, 0, none⟩), x10, x11, x12, x13, x14, x15, x16, x17, by kernel_rfl, ⟨Hb.b, Hb.f0, Hb.f1, Hb.f2, Hb.f3, Hb.f4, Hb.f5, Hb.f6, Hb.f7, fun _ _ => ⟨wr.heap.size, rfl, lt0, Blk.new wr _ _⟩, fun e => absurd e h9⟩⟩
    · have e17 := H.f7 (hpre 7 (by kernel_rfl))
      obtain ⟨X, e7, hX, hB⟩ := H.f8 (hpre 8 (by kernel_rfl)) hLj
      obtain ⟨b1, e1, _⟩ := H.f0 (hcl 7 0 (by kernel_rfl) (hpre 7 (by kernel_rfl)))
      obtain ⟨b2, e2, _⟩ := H.f5 (hcl 7 5 (by kernel_rfl) (hpre 7 (by kernel_rfl)))
      obtain ⟨b3, e3, _⟩ := H.f6 (hcl 7 6 (by kernel_rfl) (hpre 7 (by kernel_rfl)))
      clear hcl hpre
      refine wpOp_at rfl rfl fun K hK => ?_
      subst e17; subst e1; subst e2; subst e3; subst e7
      have q0 := hB.cell 0; have q1 := hB.cell 1; have q2 := hB.cell 2
      have r0 := hB.frozen 0; have r1 := hB.frozen 1; have r2 := hB.frozen 2
      go_simp
      exact hK _ _ ⟨_, _, x11, x12, x13, x14, _, _, _, by kernel_rfl, H.store hX hB (fun i hi => by simp [hi]) (by simp)⟩
  · intro L b wr hR hall
    obtain ⟨x7, x10, x11, x12, x13, x14, x15, x16, x17, rfl, H⟩ := hR
    obtain ⟨X, rfl, hX, hB⟩ := H.f9 (hall 9 (by decide))
    have M2 := H.f2 (hall 2 (by decide)); have M4 := H.f4 (hall 4 (by decide))
    obtain ⟨Wb, rfl, hW, hWB⟩ := H.f0 (hall 0 (by decide))
    obtain ⟨Cb, rfl, hC, hCB⟩ := H.f5 (hall 5 (by decide))
    obtain ⟨T, rfl, hT, hTB⟩ := H.f6 (hall 6 (by decide))
    have BW := hid (bgo B0.out H.b)
    have RB2 := hid (RB.out.below' H.b)
    have MM := hid (ML.mk (th := mthr cs 0) (av := fun _ => []) (tv := fun _ => .slice none 0 0) (Nat.le_trans B00 hW) (Nat.le_trans B00 hC) (Nat.le_trans B00 hT) hWB hCB hTB (own_lower M2 B00) (own_lower M4 B00) (fun j _ => CRow.nil _ _) (fun i j _ _ _ b hb => by cases hb))
    have HB := hid hB
    have hX' := Nat.le_trans B00 hX
    have ltX := hB.lt
    clear M2 M4 hB hWB hCB hTB hW hC hT hX H hall
    go_wp2
    go_loopw [8] (fun i wx => ∃ (k : Nat) (tv : Nat → Value) (av : Nat → List SV), k ≤ 12 ∧ k ≤ r ∧ i = .int .i64 k ∧ Hid (Blk wx X 44 #[.slice (some ⟨Wb, 0, none⟩) 8 8, .slice (some ⟨Cb, 0, none⟩) 2 2, .slice (some ⟨T, 0, none⟩) 3 3]) ∧ Hid (Blk wx w.heap.size 44 #[.slice none 0 0, .slice none 0 0, .slice none 0 0]) ∧
      Hid (ML w.heap.size wx Wb Cb T x12 x14 tv (codeOf ls 12) (codeOf ms 12) (mthr cs k) av) ∧ Hid (Below w.heap.size w wx)) (fun i _ => 12 - (intOf i).toNat)
    case atStart => exact ⟨0, _, _, Nat.zero_le _, Nat.zero_le _, rfl, HB, RB2, MM, BW⟩
    case round =>
      obtain ⟨k, tv, av, hk12, hkr, rfl, HX, RX, MX, BX⟩ := hrel
      by_cases h1 : k < r
      · have i1 : (k : Int) < (r : Int) := by omega
        by_cases h2 : k < 12
        · have i2 : (k : Int) < 12 := by omega
          obtain ⟨ad, x, rfl, hx, cxw⟩ := HD.out.ati h1
          have cx := cell_below BX.out cxw
          obtain ⟨x0, x1⟩ := HDS.out x (List.mem_of_getElem? hx)
          obtain ⟨j, hj⟩ : ∃ j, k % 3 = j := ⟨_, rfl⟩
          have hj3 : j < 3 := by omega
          have em : (k : Int).tmod 3 = (j : Int) := by rw [Int.tmod_eq_emod_of_nonneg (by omega)]; omega
          have em2 : (k : Int) % 3 = (j : Int) := by omega
          have iw : IntKind.i64.wrap (j : Int) = (j : Int) := IntWalk.i64_in _ (by omega)
          have c2 : wr.cell? ⟨X, 2, none⟩ = some (.slice (some ⟨T, 0, none⟩) 3 3) := HX.out.cell 2
          have c3 : wr.cell? ⟨T, j, none⟩ = some (tv j) := by rw [MX.out.tb.cell j]; exact arr3_at tv j hj3
          have f3 : wr.frozen? ⟨T, j, none⟩ = false := MX.out.tb.frozen j
          have hrow := MX.out.rows j hj3
          obtain ⟨Aj, cj, hAj, hcj1, hcj2⟩ := own_form hrow.2.1
          rw [hAj] at c3
          have HAJ := hid hAj
          have HROW := hid hrow
          have HTH := mthr_len cs k j
          have HJ := hid hj
          have HX0 := hid hx
          have CX0 := hid cxw
          clear hAj hrow hj hx cxw
          go_wp2_with (go_at_call 12; refine (picked _ _ _ (by omega) (by omega) (by omega) (by omega)).mono ?_; rintro e w' ⟨rfl, rfl⟩)
          have ltT := World.block_lt_of_cell? wr _ c3
          have pk0 := pk_lt x 2 (by decide)
          have pk7 := pk_lt x 7 (by decide)
          obtain ⟨y, hy⟩ : ∃ y, (mthr cs k j).zip (av j) ++ [((⟨pk x 2, [(pk x 7 : Int), (k : Int)]⟩ : VCall), (⟨some ⟨wr.heap.size, 0, none⟩, 2, 2⟩ : SV))] = y := ⟨_, rfl⟩
          have HYE := hid hy
          have HYL := hid (show y.length = (mthr cs k j).length + 1 by rw [← hy, List.length_append, List.length_zip, HROW.out.1]; simp)
          clear hy
          have HBS := hid BX.out.size
          have HOW := hid (show ∀ w', Below wr.heap.size wr w' → w'.ownsRow w.heap.size 59 2 (.slice Aj (mthr cs k j).length cj) ((mthr cs k j).zip (av j)).length (((mthr cs k j).zip (av j)).flatMap gS) from fun w' hb => by
            have h1 := own_below HROW.out.2.1 hb
            rw [HAJ.out] at h1
            rw [List.length_zip, HROW.out.1, Nat.min_self]
            exact h1)
          have HGW := hid (show ∀ wA w6, Below wr.heap.size wr wA → wA.grownBy w6 (Value.slice Aj (mthr cs k j).length cj).ownBlock → (w6.cell? ⟨X, 2, none⟩ = some (.slice (some ⟨T, 0, none⟩) 3 3) ∧ w6.cell? (ad.add k) = some (.int .i64 x) ∧ w6.frozen? ⟨T, j, none⟩ = false) ∧ w6.cell? ⟨T, j, none⟩ = some (.slice Aj (mthr cs k j).length cj) ∧
            ∀ v, ((w6.setCell ⟨T, j, none⟩ v).cell? ⟨X, 2, none⟩ = some (.slice (some ⟨T, 0, none⟩) 3 3) ∧ (w6.setCell ⟨T, j, none⟩ v).cell? (ad.add k) = some (.int .i64 x) ∧ (w6.setCell ⟨T, j, none⟩ v).frozen? ⟨T, j, none⟩ = false) from fun wA w6 hb hG => by
            rw [← HAJ.out] at hG
            obtain ⟨g1, g2⟩ := MX.out.grown hj3 hb hG
            have g3 := (MX.out.chg hj3 hb hG BX.out rfl (.slice none 0 0)).1
            have gX := g2 (by decide) HX.out
            have hXT : X ≠ T := gX.ne_ g1 (by decide)
            refine ⟨⟨gX.cell 2, cell_below g3 CX0.out, g1.frozen j⟩, by rw [g1.cell j, arr3_at tv j hj3, HAJ.out], fun v => ⟨?_, ?_, ?_⟩⟩
            · exact (gX.far (p := ⟨T, j, none⟩) hXT v).cell 2
            · exact cell_below ((MX.out.chg hj3 hb hG BX.out rfl v).2) CX0.out
            · exact (g1.set_ j v).frozen j)
          have HMC := hid (show mcall cs k = ⟨pk x 2, [(pk x 7 : Int), (k : Int)]⟩ by unfold mcall; rw [List.getD_eq_getElem?_getD, HX0.out]; rfl)
          have HFR := hid (show ∀ o, ((wr.alloc (.cells #[.int .i64 ((pk x 7 : Nat) : Int), .int .i64 (k : Int)] 3)).alloc o).drew.ownsRow w.heap.size 3 1 (.slice (some ⟨wr.heap.size, 0, none⟩) 2 2) (mcall cs k).args.length ((mcall cs k).args.flatMap gI) from fun o => by
            rw [HMC.out]
            exact own_below (own_fresh wr #[.int .i64 ((pk x 7 : Nat) : Int), .int .i64 (k : Int)] 3 1 2 _ _ rfl BX.out.size rfl (by simp [maxLen])) (bnew (bnil _) o).drew)
          have ja : (0 : Int) ≤ (j : Int) := by omega
          have jb : (j : Int) < 3 := by omega
          clear HL HM B0 RB BW RB2 MM HB
          have ltX2 := World.block_lt_of_cell? wr _ c2
          have ltA := World.block_lt_of_cell? wr _ cx
          refine wp_region_held_drew (S := (fun w' => w'.cell? ⟨X, 2, none⟩ = some (.slice (some ⟨T, 0, none⟩) 3 3) ∧ w'.cell? (ad.add k) = some (.int .i64 x) ∧ w'.frozen? ⟨T, j, none⟩ = false)) (by kernel_rfl) ?_ (fun hHeld => ?_)
          · (try dsimp only); (first | assumption | exact ⟨c2, cx, f3⟩ | exact HZ.1 | exact HZ.2.2 _ | (refine sees3d ?_ c2 c3 cx f3; (repeat (first | exact bnil _ | refine Below.drew ?_ | refine bnew ?_ _))))
          refine wpAnyH_take (i := 0) (oi := ⟨some 33, _, _, _, _, _⟩) (v := ?_) rfl (by kernel_rfl) (by kernel_rfl) (by kernel_rfl) (fun _ _ _ h => h) (Or.inl ⟨by rfl, ?_⟩) (by assumption) ?_
          rotate_left
          · intro w hSw; (try dsimp only at hSw); go_simp <;> with_reducible rfl
          try simp only [Act.put, List.setIfInBounds_toArray, List.set_cons_zero, List.set_cons_succ]
          refine wpAnyH_take (i := 1) (oi := ⟨some 34, _, _, _, _, _⟩) (v := ?_) rfl (by kernel_rfl) (by kernel_rfl) (by kernel_rfl) (fun _ _ _ h => h) (Or.inl ⟨by rfl, ?_⟩) (by assumption) ?_
          rotate_left
          · intro w hSw; (try dsimp only at hSw); go_simp <;> with_reducible rfl
          try simp only [Act.put, List.setIfInBounds_toArray, List.set_cons_zero, List.set_cons_succ]
          refine wpAnyH_take (i := 2) (oi := ⟨some 35, _, _, _, _, _⟩) (v := ?_) rfl (by kernel_rfl) (by kernel_rfl) (by kernel_rfl) (fun _ _ _ h => h) (Or.inl ⟨by rfl, ?_⟩) (by assumption) ?_
          rotate_left
          · intro w hSw; (try dsimp only at hSw); go_simp <;> with_reducible rfl
          try simp only [Act.put, List.setIfInBounds_toArray, List.set_cons_zero, List.set_cons_succ]
          refine wpAnyH_take (i := 3) (oi := ⟨some 36, _, _, _, _, _⟩) (v := ?_) rfl (by kernel_rfl) (by kernel_rfl) (by kernel_rfl) (fun _ _ _ h => h) (Or.inl ⟨by rfl, ?_⟩) (by assumption) ?_
          rotate_left
          · intro w hSw; (try dsimp only at hSw); go_simp <;> with_reducible rfl
          try simp only [Act.put, List.setIfInBounds_toArray, List.set_cons_zero, List.set_cons_succ]
          refine wpAnyH_take (i := 4) (oi := ⟨some 37, _, _, _, _, _⟩) (v := ?_) rfl (by kernel_rfl) (by kernel_rfl) (by kernel_rfl) (fun _ _ _ h => h) (Or.inl ⟨by rfl, ?_⟩) (by assumption) ?_
          rotate_left
          · intro w hSw; (try dsimp only at hSw); go_simp <;> with_reducible rfl
          try simp only [Act.put, List.setIfInBounds_toArray, List.set_cons_zero, List.set_cons_succ]
          refine wpAnyH_take (i := 5) (oi := ⟨some 38, _, _, _, _, _⟩) (v := ?_) rfl (by kernel_rfl) (by kernel_rfl) (by kernel_rfl) (fun _ _ _ h => h) (Or.inl ⟨by rfl, ?_⟩) (by assumption) ?_
          rotate_left
          · intro w hSw; (try dsimp only at hSw); go_simp <;> with_reducible rfl
          try simp only [Act.put, List.setIfInBounds_toArray, List.set_cons_zero, List.set_cons_succ]
          refine wpAnyH_take (i := 6) (oi := ⟨some 39, _, _, _, _, _⟩) (v := ?_) rfl (by kernel_rfl) (by kernel_rfl) (by kernel_rfl) (fun _ _ _ h => h) (Or.inl ⟨by rfl, ?_⟩) (by assumption) ?_
          rotate_left
          · intro w hSw; (try dsimp only at hSw); go_simp <;> with_reducible rfl
          try simp only [Act.put, List.setIfInBounds_toArray, List.set_cons_zero, List.set_cons_succ]
          refine wpAnyH_take (i := 7) (oi := ⟨some 40, _, _, _, _, _⟩) (v := ?_) rfl (by kernel_rfl) (by kernel_rfl) (by kernel_rfl) (fun _ _ _ h => h) (Or.inl ⟨by rfl, ?_⟩) (by assumption) ?_
          rotate_left
          · intro w hSw; (try dsimp only at hSw); go_simp <;> with_reducible rfl
          try simp only [Act.put, List.setIfInBounds_toArray, List.set_cons_zero, List.set_cons_succ]
          refine wpAnyH_take (i := 8) (oi := ⟨some 41, _, _, _, _, _⟩) (v := ?_) rfl (by kernel_rfl) (by kernel_rfl) (by kernel_rfl) (fun _ _ _ h => h) (Or.inl ⟨by rfl, ?_⟩) (by assumption) ?_
          rotate_left
          · intro w hSw; (try dsimp only at hSw); go_simp <;> with_reducible rfl
          try simp only [Act.put, List.setIfInBounds_toArray, List.set_cons_zero, List.set_cons_succ]
          refine wpAnyH_take (i := 10) (oi := ⟨some 43, _, _, _, _, _⟩) (v := ?_) rfl (by kernel_rfl) (by kernel_rfl) (by kernel_rfl) (fun _ _ _ h => h) (Or.inl ⟨by rfl, ?_⟩) (by assumption) ?_
          rotate_left
          · intro w hSw; (try dsimp only at hSw); go_simp <;> with_reducible rfl
          try simp only [Act.put, List.setIfInBounds_toArray, List.set_cons_zero, List.set_cons_succ]
          refine wpAnyH_take (i := 11) (oi := ⟨some 44, _, _, _, _, _⟩) (v := ?_) rfl (by kernel_rfl) (by kernel_rfl) (by kernel_rfl) (fun _ _ _ h => h) (Or.inl ⟨by rfl, ?_⟩) (by assumption) ?_
          rotate_left
          · intro w hSw; (try dsimp only at hSw); go_simp <;> with_reducible rfl
          try simp only [Act.put, List.setIfInBounds_toArray, List.set_cons_zero, List.set_cons_succ]
          refine wpAnyH_take (i := 12) (oi := ⟨some 45, _, _, _, _, _⟩) (v := ?_) rfl (by kernel_rfl) (by kernel_rfl) (by kernel_rfl) (fun _ _ _ h => h) (Or.inl ⟨by rfl, ?_⟩) (by assumption) ?_
          rotate_left
          · intro w hSw; (try dsimp only at hSw); go_simp <;> with_reducible rfl
          try simp only [Act.put, List.setIfInBounds_toArray, List.set_cons_zero, List.set_cons_succ]
          refine wpAnyH_take (i := 13) (oi := ⟨some 46, _, _, _, _, _⟩) (v := ?_) rfl (by kernel_rfl) (by kernel_rfl) (by kernel_rfl) (fun _ _ _ h => h) (Or.inl ⟨by rfl, ?_⟩) (by assumption) ?_
          rotate_left
          · intro w hSw; (try dsimp only at hSw); go_simp <;> with_reducible rfl
          try simp only [Act.put, List.setIfInBounds_toArray, List.set_cons_zero, List.set_cons_succ]
          refine wpAnyH_take (i := 14) (oi := ⟨some 47, _, _, _, _, _⟩) (v := ?_) rfl (by kernel_rfl) (by kernel_rfl) (by kernel_rfl) (fun _ _ _ h => h) (Or.inl ⟨by rfl, ?_⟩) (by assumption) ?_
          rotate_left
          · intro w hSw; (try dsimp only at hSw); go_simp <;> with_reducible rfl
          try simp only [Act.put, List.setIfInBounds_toArray, List.set_cons_zero, List.set_cons_succ]
          refine wpAnyH_take (i := 16) (oi := ⟨some 49, _, _, _, _, _⟩) (v := ?_) rfl (by kernel_rfl) (by kernel_rfl) (by kernel_rfl) (fun _ _ _ h => h) (Or.inl ⟨by rfl, ?_⟩) (by assumption) ?_
          rotate_left
          · intro w hSw; (try dsimp only at hSw); go_simp <;> with_reducible rfl
          try simp only [Act.put, List.setIfInBounds_toArray, List.set_cons_zero, List.set_cons_succ]
          refine wpAnyH_ready (rs := [9, 15]) (by kernel_rfl) (by simp) ?_
          refine AllReadyH.cons (o := ⟨some 42, _, _, _, _, _⟩) rfl (fun K hK => ?_) ?_
          go_simp
          refine hK.out _ _ ?_ (fun hHeld => ?_)
          · (try dsimp only); (first | assumption | exact ⟨c2, cx, f3⟩ | exact HZ.1 | exact HZ.2.2 _ | (refine sees3d ?_ c2 c3 cx f3; (repeat (first | exact bnil _ | refine Below.drew ?_ | refine bnew ?_ _))))
          clear hK K
          try simp only [Act.put, List.setIfInBounds_toArray, List.set_cons_zero, List.set_cons_succ]
          refine wpAnyH_ready (rs := [15]) (by kernel_rfl) (by simp) ?_
          refine AllReadyH.cons (o := ⟨some 48, _, _, _, _, _⟩) rfl (fun K hK => ?_) AllReadyH.nil
          go_simp
          (with_reducible refine (picked x 7 _ (by omega) (by omega) (by omega) (by omega)).mono ?_); rintro e w' ⟨rfl, rfl⟩
          go_wp2_with fail
          refine hK.out _ _ ?_ (fun hHeld => ?_)
          · (try dsimp only); (first | assumption | exact ⟨c2, cx, f3⟩ | exact HZ.1 | exact HZ.2.2 _ | (refine sees3d ?_ c2 c3 cx f3; (repeat (first | exact bnil _ | refine Below.drew ?_ | refine bnew ?_ _))))
          clear hK K
          try simp only [Act.put, List.setIfInBounds_toArray, List.set_cons_zero, List.set_cons_succ]
          refine wpAnyH_ready (rs := [17]) (by kernel_rfl) (by simp) ?_
          refine AllReadyH.cons (o := ⟨some 50, _, _, _, _, _⟩) rfl (fun K hK => ?_) AllReadyH.nil
          go_simp
          refine hK.out _ _ ?_ (fun hHeld => ?_)
          · (try dsimp only); (first | assumption | exact ⟨c2, cx, f3⟩ | exact HZ.1 | exact HZ.2.2 _ | (refine sees3d ?_ c2 c3 cx f3; (repeat (first | exact bnil _ | refine Below.drew ?_ | refine bnew ?_ _))))
          clear hK K
          try simp only [Act.put, List.setIfInBounds_toArray, List.set_cons_zero, List.set_cons_succ]
          refine wpAnyH_take (i := 18) (oi := ⟨some 51, _, _, _, _, _⟩) (v := ?_) rfl (by kernel_rfl) (by kernel_rfl) (by kernel_rfl) (fun _ _ _ h => h) (Or.inl ⟨by rfl, ?_⟩) (by assumption) ?_
          rotate_left
          · intro w hSw; (try dsimp only at hSw); go_simp <;> with_reducible rfl
          try simp only [Act.put, List.setIfInBounds_toArray, List.set_cons_zero, List.set_cons_succ]
          refine wpAnyH_ready (rs := [19]) (by kernel_rfl) (by simp) ?_
          refine AllReadyH.cons (o := ⟨some 52, _, _, _, _, _⟩) rfl (fun K hK => ?_) AllReadyH.nil
          go_simp
          refine hK.out _ _ ?_ (fun hHeld => ?_)
          · (try dsimp only); (first | assumption | exact ⟨c2, cx, f3⟩ | exact HZ.1 | exact HZ.2.2 _ | (refine sees3d ?_ c2 c3 cx f3; (repeat (first | exact bnil _ | refine Below.drew ?_ | refine bnew ?_ _))))
          clear hK K
          try simp only [Act.put, List.setIfInBounds_toArray, List.set_cons_zero, List.set_cons_succ]
          refine wpAnyH_ready (rs := [20]) (by kernel_rfl) (by simp) ?_
          refine AllReadyH.cons (o := ⟨some 53, _, _, _, _, _⟩) rfl (fun K hK => ?_) AllReadyH.nil
          (refine step_appC elmC gS_one rfl (.tmp 42) (.tmp 52) rfl (.slice Aj (mthr cs k j).length cj) ((mthr cs k j).zip (av j)) rfl (HOW.out _ (bnew (bnew (bnil _) _) _).drew) [((⟨pk x 2, [(pk x 7 : Int), (k : Int)]⟩ : VCall), (⟨some ⟨wr.heap.size, 0, none⟩, 2, 2⟩ : SV))] y HYE rfl (Sl.drew (Sl.fresh' _ #[_, _] 59 2 1 _ (by simp) rfl)) rfl (by rw [HYL.out]; simp only [maxLen]; omega) (by rw [HYL.out]; omega) (Nat.le_trans HBS.out (bnew (bnew (bnil _) _) _).drew.size) ?_; intro E6 c6 w6 hc6 hc7 HN6 HG6 HO6; have HZ := HGW.out _ w6 (bnew (bnew (bnil _) _) _).drew HG6.out)
          refine hK.out _ _ ?_ (fun hHeld => ?_)
          · (try dsimp only); (first | assumption | exact ⟨c2, cx, f3⟩ | exact HZ.1 | exact HZ.2.2 _ | (refine sees3d ?_ c2 c3 cx f3; (repeat (first | exact bnil _ | refine Below.drew ?_ | refine bnew ?_ _))))
          clear hK K
          try simp only [Act.put, List.setIfInBounds_toArray, List.set_cons_zero, List.set_cons_succ]
          refine wpAnyH_take (i := 21) (oi := ⟨some 54, _, _, _, _, _⟩) (v := ?_) rfl (by kernel_rfl) (by kernel_rfl) (by kernel_rfl) (fun _ _ _ h => h) (Or.inl ⟨by rfl, ?_⟩) (by assumption) ?_
          rotate_left
          · intro w hSw; (try dsimp only at hSw); go_simp <;> with_reducible rfl
          try simp only [Act.put, List.setIfInBounds_toArray, List.set_cons_zero, List.set_cons_succ]
          refine wpAnyH_ready (rs := [22]) (by kernel_rfl) (by simp) ?_
          refine AllReadyH.cons (o := ⟨none, _, _, _, _, _⟩) rfl (fun K hK => ?_) AllReadyH.nil
          go_simp
          refine hK.out _ _ ?_ (fun hHeld => ?_)
          · (try dsimp only); (first | assumption | exact ⟨c2, cx, f3⟩ | exact HZ.1 | exact HZ.2.2 _ | (refine sees3d ?_ c2 c3 cx f3; (repeat (first | exact bnil _ | refine Below.drew ?_ | refine bnew ?_ _))))
          clear hK K
          try simp only [Act.put, List.setIfInBounds_toArray, List.set_cons_zero, List.set_cons_succ]
          refine wpAnyH_done (by kernel_rfl) ?_ _
          rotate_left
          refine AllReadyH.cons (o := ⟨some 48, _, _, _, _, _⟩) rfl (fun K hK => ?_) AllReadyH.nil
          go_simp
          (with_reducible refine (picked x 7 _ (by omega) (by omega) (by omega) (by omega)).mono ?_); rintro e w' ⟨rfl, rfl⟩
          go_wp2_with fail
          refine hK.out _ _ ?_ (fun hHeld => ?_)
          · (try dsimp only); (first | assumption | exact ⟨c2, cx, f3⟩ | exact HZ.1 | exact HZ.2.2 _ | (refine sees3d ?_ c2 c3 cx f3; (repeat (first | exact bnil _ | refine Below.drew ?_ | refine bnew ?_ _))))
          clear hK K
          try simp only [Act.put, List.setIfInBounds_toArray, List.set_cons_zero, List.set_cons_succ]
          refine wpAnyH_ready (rs := [9, 17]) (by kernel_rfl) (by simp) ?_
          refine AllReadyH.cons (o := ⟨some 42, _, _, _, _, _⟩) rfl (fun K hK => ?_) ?_
          go_simp
          refine hK.out _ _ ?_ (fun hHeld => ?_)
          · (try dsimp only); (first | assumption | exact ⟨c2, cx, f3⟩ | exact HZ.1 | exact HZ.2.2 _ | (refine sees3d ?_ c2 c3 cx f3; (repeat (first | exact bnil _ | refine Below.drew ?_ | refine bnew ?_ _))))
          clear hK K
          try simp only [Act.put, List.setIfInBounds_toArray, List.set_cons_zero, List.set_cons_succ]
          refine wpAnyH_ready (rs := [17]) (by kernel_rfl) (by simp) ?_
          refine AllReadyH.cons (o := ⟨some 50, _, _, _, _, _⟩) rfl (fun K hK => ?_) AllReadyH.nil
          go_simp
          refine hK.out _ _ ?_ (fun hHeld => ?_)
          · (try dsimp only); (first | assumption | exact ⟨c2, cx, f3⟩ | exact HZ.1 | exact HZ.2.2 _ | (refine sees3d ?_ c2 c3 cx f3; (repeat (first | exact bnil _ | refine Below.drew ?_ | refine bnew ?_ _))))
          clear hK K
          try simp only [Act.put, List.setIfInBounds_toArray, List.set_cons_zero, List.set_cons_succ]
          refine wpAnyH_take (i := 18) (oi := ⟨some 51, _, _, _, _, _⟩) (v := ?_) rfl (by kernel_rfl) (by kernel_rfl) (by kernel_rfl) (fun _ _ _ h => h) (Or.inl ⟨by rfl, ?_⟩) (by assumption) ?_
          rotate_left
          · intro w hSw; (try dsimp only at hSw); go_simp <;> with_reducible rfl
          try simp only [Act.put, List.setIfInBounds_toArray, List.set_cons_zero, List.set_cons_succ]
          refine wpAnyH_ready (rs := [19]) (by kernel_rfl) (by simp) ?_
          refine AllReadyH.cons (o := ⟨some 52, _, _, _, _, _⟩) rfl (fun K hK => ?_) AllReadyH.nil
          go_simp
          refine hK.out _ _ ?_ (fun hHeld => ?_)
          · (try dsimp only); (first | assumption | exact ⟨c2, cx, f3⟩ | exact HZ.1 | exact HZ.2.2 _ | (refine sees3d ?_ c2 c3 cx f3; (repeat (first | exact bnil _ | refine Below.drew ?_ | refine bnew ?_ _))))
          clear hK K
          try simp only [Act.put, List.setIfInBounds_toArray, List.set_cons_zero, List.set_cons_succ]
          refine wpAnyH_ready (rs := [20]) (by kernel_rfl) (by simp) ?_
          refine AllReadyH.cons (o := ⟨some 53, _, _, _, _, _⟩) rfl (fun K hK => ?_) AllReadyH.nil
          (refine step_appC elmC gS_one rfl (.tmp 42) (.tmp 52) rfl (.slice Aj (mthr cs k j).length cj) ((mthr cs k j).zip (av j)) rfl (HOW.out _ (bnew (bnew (bnil _) _) _).drew) [((⟨pk x 2, [(pk x 7 : Int), (k : Int)]⟩ : VCall), (⟨some ⟨wr.heap.size, 0, none⟩, 2, 2⟩ : SV))] y HYE rfl (Sl.drew (Sl.fresh' _ #[_, _] 59 2 1 _ (by simp) rfl)) rfl (by rw [HYL.out]; simp only [maxLen]; omega) (by rw [HYL.out]; omega) (Nat.le_trans HBS.out (bnew (bnew (bnil _) _) _).drew.size) ?_; intro E6 c6 w6 hc6 hc7 HN6 HG6 HO6; have HZ := HGW.out _ w6 (bnew (bnew (bnil _) _) _).drew HG6.out)
          refine hK.out _ _ ?_ (fun hHeld => ?_)
          · (try dsimp only); (first | assumption | exact ⟨c2, cx, f3⟩ | exact HZ.1 | exact HZ.2.2 _ | (refine sees3d ?_ c2 c3 cx f3; (repeat (first | exact bnil _ | refine Below.drew ?_ | refine bnew ?_ _))))
          clear hK K
          try simp only [Act.put, List.setIfInBounds_toArray, List.set_cons_zero, List.set_cons_succ]
          refine wpAnyH_take (i := 21) (oi := ⟨some 54, _, _, _, _, _⟩) (v := ?_) rfl (by kernel_rfl) (by kernel_rfl) (by kernel_rfl) (fun _ _ _ h => h) (Or.inl ⟨by rfl, ?_⟩) (by assumption) ?_
          rotate_left
          · intro w hSw; (try dsimp only at hSw); go_simp <;> with_reducible rfl
          try simp only [Act.put, List.setIfInBounds_toArray, List.set_cons_zero, List.set_cons_succ]
          refine wpAnyH_ready (rs := [22]) (by kernel_rfl) (by simp) ?_
          refine AllReadyH.cons (o := ⟨none, _, _, _, _, _⟩) rfl (fun K hK => ?_) AllReadyH.nil
          go_simp
          refine hK.out _ _ ?_ (fun hHeld => ?_)
          · (try dsimp only); (first | assumption | exact ⟨c2, cx, f3⟩ | exact HZ.1 | exact HZ.2.2 _ | (refine sees3d ?_ c2 c3 cx f3; (repeat (first | exact bnil _ | refine Below.drew ?_ | refine bnew ?_ _))))
          clear hK K
          try simp only [Act.put, List.setIfInBounds_toArray, List.set_cons_zero, List.set_cons_succ]
          refine wpAnyH_done (by kernel_rfl) ?_ _
          rotate_left
          refine AllReadyH.cons (o := ⟨some 50, _, _, _, _, _⟩) rfl (fun K hK => ?_) AllReadyH.nil
          go_simp
          refine hK.out _ _ ?_ (fun hHeld => ?_)
          · (try dsimp only); (first | assumption | exact ⟨c2, cx, f3⟩ | exact HZ.1 | exact HZ.2.2 _ | (refine sees3d ?_ c2 c3 cx f3; (repeat (first | exact bnil _ | refine Below.drew ?_ | refine bnew ?_ _))))
          clear hK K
          try simp only [Act.put, List.setIfInBounds_toArray, List.set_cons_zero, List.set_cons_succ]
          refine wpAnyH_take (i := 18) (oi := ⟨some 51, _, _, _, _, _⟩) (v := ?_) rfl (by kernel_rfl) (by kernel_rfl) (by kernel_rfl) (fun _ _ _ h => h) (Or.inl ⟨by rfl, ?_⟩) (by assumption) ?_
          rotate_left
          · intro w hSw; (try dsimp only at hSw); go_simp <;> with_reducible rfl
          try simp only [Act.put, List.setIfInBounds_toArray, List.set_cons_zero, List.set_cons_succ]
          refine wpAnyH_ready (rs := [9, 19]) (by kernel_rfl) (by simp) ?_
          refine AllReadyH.cons (o := ⟨some 42, _, _, _, _, _⟩) rfl (fun K hK => ?_) ?_
          go_simp
          refine hK.out _ _ ?_ (fun hHeld => ?_)
          · (try dsimp only); (first | assumption | exact ⟨c2, cx, f3⟩ | exact HZ.1 | exact HZ.2.2 _ | (refine sees3d ?_ c2 c3 cx f3; (repeat (first | exact bnil _ | refine Below.drew ?_ | refine bnew ?_ _))))
          clear hK K
          try simp only [Act.put, List.setIfInBounds_toArray, List.set_cons_zero, List.set_cons_succ]
          refine wpAnyH_ready (rs := [19]) (by kernel_rfl) (by simp) ?_
          refine AllReadyH.cons (o := ⟨some 52, _, _, _, _, _⟩) rfl (fun K hK => ?_) AllReadyH.nil
          go_simp
          refine hK.out _ _ ?_ (fun hHeld => ?_)
          · (try dsimp only); (first | assumption | exact ⟨c2, cx, f3⟩ | exact HZ.1 | exact HZ.2.2 _ | (refine sees3d ?_ c2 c3 cx f3; (repeat (first | exact bnil _ | refine Below.drew ?_ | refine bnew ?_ _))))
          clear hK K
          try simp only [Act.put, List.setIfInBounds_toArray, List.set_cons_zero, List.set_cons_succ]
          refine wpAnyH_ready (rs := [20]) (by kernel_rfl) (by simp) ?_
          refine AllReadyH.cons (o := ⟨some 53, _, _, _, _, _⟩) rfl (fun K hK => ?_) AllReadyH.nil
          (refine step_appC elmC gS_one rfl (.tmp 42) (.tmp 52) rfl (.slice Aj (mthr cs k j).length cj) ((mthr cs k j).zip (av j)) rfl (HOW.out _ (bnew (bnew (bnil _) _) _).drew) [((⟨pk x 2, [(pk x 7 : Int), (k : Int)]⟩ : VCall), (⟨some ⟨wr.heap.size, 0, none⟩, 2, 2⟩ : SV))] y HYE rfl (Sl.drew (Sl.fresh' _ #[_, _] 59 2 1 _ (by simp) rfl)) rfl (by rw [HYL.out]; simp only [maxLen]; omega) (by rw [HYL.out]; omega) (Nat.le_trans HBS.out (bnew (bnew (bnil _) _) _).drew.size) ?_; intro E6 c6 w6 hc6 hc7 HN6 HG6 HO6; have HZ := HGW.out _ w6 (bnew (bnew (bnil _) _) _).drew HG6.out)
          refine hK.out _ _ ?_ (fun hHeld => ?_)
          · (try dsimp only); (first | assumption | exact ⟨c2, cx, f3⟩ | exact HZ.1 | exact HZ.2.2 _ | (refine sees3d ?_ c2 c3 cx f3; (repeat (first | exact bnil _ | refine Below.drew ?_ | refine bnew ?_ _))))
          clear hK K
          try simp only [Act.put, List.setIfInBounds_toArray, List.set_cons_zero, List.set_cons_succ]
          refine wpAnyH_take (i := 21) (oi := ⟨some 54, _, _, _, _, _⟩) (v := ?_) rfl (by kernel_rfl) (by kernel_rfl) (by kernel_rfl) (fun _ _ _ h => h) (Or.inl ⟨by rfl, ?_⟩) (by assumption) ?_
          rotate_left
          · intro w hSw; (try dsimp only at hSw); go_simp <;> with_reducible rfl
          try simp only [Act.put, List.setIfInBounds_toArray, List.set_cons_zero, List.set_cons_succ]
          refine wpAnyH_ready (rs := [22]) (by kernel_rfl) (by simp) ?_
          refine AllReadyH.cons (o := ⟨none, _, _, _, _, _⟩) rfl (fun K hK => ?_) AllReadyH.nil
          go_simp
          refine hK.out _ _ ?_ (fun hHeld => ?_)
          · (try dsimp only); (first | assumption | exact ⟨c2, cx, f3⟩ | exact HZ.1 | exact HZ.2.2 _ | (refine sees3d ?_ c2 c3 cx f3; (repeat (first | exact bnil _ | refine Below.drew ?_ | refine bnew ?_ _))))
          clear hK K
          try simp only [Act.put, List.setIfInBounds_toArray, List.set_cons_zero, List.set_cons_succ]
          refine wpAnyH_done (by kernel_rfl) ?_ _
          rotate_left
          refine AllReadyH.cons (o := ⟨some 52, _, _, _, _, _⟩) rfl (fun K hK => ?_) AllReadyH.nil
          go_simp
          refine hK.out _ _ ?_ (fun hHeld => ?_)
          · (try dsimp only); (first | assumption | exact ⟨c2, cx, f3⟩ | exact HZ.1 | exact HZ.2.2 _ | (refine sees3d ?_ c2 c3 cx f3; (repeat (first | exact bnil _ | refine Below.drew ?_ | refine bnew ?_ _))))
          clear hK K
          try simp only [Act.put, List.setIfInBounds_toArray, List.set_cons_zero, List.set_cons_succ]
          refine wpAnyH_ready (rs := [9]) (by kernel_rfl) (by simp) ?_
          refine AllReadyH.cons (o := ⟨some 42, _, _, _, _, _⟩) rfl (fun K hK => ?_) AllReadyH.nil
          go_simp
          refine hK.out _ _ ?_ (fun hHeld => ?_)
          · (try dsimp only); (first | assumption | exact ⟨c2, cx, f3⟩ | exact HZ.1 | exact HZ.2.2 _ | (refine sees3d ?_ c2 c3 cx f3; (repeat (first | exact bnil _ | refine Below.drew ?_ | refine bnew ?_ _))))
          clear hK K
          try simp only [Act.put, List.setIfInBounds_toArray, List.set_cons_zero, List.set_cons_succ]
          refine wpAnyH_ready (rs := [20]) (by kernel_rfl) (by simp) ?_
          refine AllReadyH.cons (o := ⟨some 53, _, _, _, _, _⟩) rfl (fun K hK => ?_) AllReadyH.nil
          (refine step_appC elmC gS_one rfl (.tmp 42) (.tmp 52) rfl (.slice Aj (mthr cs k j).length cj) ((mthr cs k j).zip (av j)) rfl (HOW.out _ (bnew (bnew (bnil _) _) _).drew) [((⟨pk x 2, [(pk x 7 : Int), (k : Int)]⟩ : VCall), (⟨some ⟨wr.heap.size, 0, none⟩, 2, 2⟩ : SV))] y HYE rfl (Sl.drew (Sl.fresh' _ #[_, _] 59 2 1 _ (by simp) rfl)) rfl (by rw [HYL.out]; simp only [maxLen]; omega) (by rw [HYL.out]; omega) (Nat.le_trans HBS.out (bnew (bnew (bnil _) _) _).drew.size) ?_; intro E6 c6 w6 hc6 hc7 HN6 HG6 HO6; have HZ := HGW.out _ w6 (bnew (bnew (bnil _) _) _).drew HG6.out)
          refine hK.out _ _ ?_ (fun hHeld => ?_)
          · (try dsimp only); (first | assumption | exact ⟨c2, cx, f3⟩ | exact HZ.1 | exact HZ.2.2 _ | (refine sees3d ?_ c2 c3 cx f3; (repeat (first | exact bnil _ | refine Below.drew ?_ | refine bnew ?_ _))))
          clear hK K
          try simp only [Act.put, List.setIfInBounds_toArray, List.set_cons_zero, List.set_cons_succ]
          refine wpAnyH_take (i := 21) (oi := ⟨some 54, _, _, _, _, _⟩) (v := ?_) rfl (by kernel_rfl) (by kernel_rfl) (by kernel_rfl) (fun _ _ _ h => h) (Or.inl ⟨by rfl, ?_⟩) (by assumption) ?_
          rotate_left
          · intro w hSw; (try dsimp only at hSw); go_simp <;> with_reducible rfl
          try simp only [Act.put, List.setIfInBounds_toArray, List.set_cons_zero, List.set_cons_succ]
          refine wpAnyH_ready (rs := [22]) (by kernel_rfl) (by simp) ?_
          refine AllReadyH.cons (o := ⟨none, _, _, _, _, _⟩) rfl (fun K hK => ?_) AllReadyH.nil
          go_simp
          refine hK.out _ _ ?_ (fun hHeld => ?_)
          · (try dsimp only); (first | assumption | exact ⟨c2, cx, f3⟩ | exact HZ.1 | exact HZ.2.2 _ | (refine sees3d ?_ c2 c3 cx f3; (repeat (first | exact bnil _ | refine Below.drew ?_ | refine bnew ?_ _))))
          clear hK K
          try simp only [Act.put, List.setIfInBounds_toArray, List.set_cons_zero, List.set_cons_succ]
          refine wpAnyH_done (by kernel_rfl) ?_ _
          rotate_left
          all_goals
            obtain ⟨g1, g2⟩ := MX.out.grown hj3 (bnew (bnew (bnil _) _) _).drew (by rw [HAJ.out]; exact HG6.out)
            have HX6 := hid ((g2 (by decide) HX.out).far (p := ⟨T, j, none⟩) ((g2 (by decide) HX.out).ne_ g1 (by decide)) (.slice E6 y.length c6))
            have HR6 := hid ((g2 (by decide) RX.out).far (p := ⟨T, j, none⟩) ((g2 (by decide) RX.out).ne_ g1 (by decide)) (.slice E6 y.length c6))
            have HB6 := hid (MX.out.chg hj3 (bnew (bnew (bnil _) _) _).drew (by rw [HAJ.out]; exact HG6.out) BX.out rfl (.slice E6 y.length c6)).2
            have HM6 := hid (MX.out.snoc hj3 (mcall cs k) (bnew (bnew (bnil _) _) _).drew (a := ⟨some ⟨wr.heap.size, 0, none⟩, 2, 2⟩) (HFR.out _) (by rw [HMC.out]; exact HYE.out) (by rw [HAJ.out]; exact HG6.out) (by rw [HAJ.out]; exact HO6.out) HN6.out)
            clear g1 g2 HZ HG6 HO6 HN6
            go_wp2
            go_roundw
            case rel => exact ⟨k + 1, _, _, by omega, by omega, by go_num, HX6, HR6, hid (by have h1 := HM6.out; rw [mthr_updj HJ.out] at h1; exact h1), HB6⟩
            case measure => simp [intOf]; omega
        · obtain rfl : k = 12 := by omega
          have i2 : ¬ (((12 : Nat) : Int)) < 12 := by omega
          have E := hid (show min 12 cs.length = 12 by rw [HRL.out]; omega)
          have y0 : wr.cell? ⟨X, 0, none⟩ = some (.slice (some ⟨Wb, 0, none⟩) 8 8) := HX.out.cell 0
          have y1 : wr.cell? ⟨X, 1, none⟩ = some (.slice (some ⟨Cb, 0, none⟩) 2 2) := HX.out.cell 1
          have y2 : wr.cell? ⟨X, 2, none⟩ = some (.slice (some ⟨T, 0, none⟩) 3 3) := HX.out.cell 2
          have z0 := RX.out.frozen 0
          have z1 := RX.out.frozen 1
          have z2 := RX.out.frozen 2
          have z3 : wr.cell? ⟨w.heap.size, 0, none⟩ = some (.slice none 0 0) := RX.out.cell 0
          have z4 : wr.cell? ⟨w.heap.size, 1, none⟩ = some (.slice none 0 0) := RX.out.cell 1
          have z5 : wr.cell? ⟨w.heap.size, 2, none⟩ = some (.slice none 0 0) := RX.out.cell 2
          go_wp2
          obtain ⟨q0, q1, q2⟩ := set3 RX.out (.slice (some ⟨Wb, 0, none⟩) 8 8) (.slice (some ⟨Cb, 0, none⟩) 2 2) (.slice (some ⟨T, 0, none⟩) 3 3)
          refine bodyPost_ret (v := .agg #[.slice (some ⟨Wb, 0, none⟩) 8 8, .slice (some ⟨Cb, 0, none⟩) 2 2, .slice (some ⟨T, 0, none⟩) 3 3]) (by simp [results, Tryd.results18, go_sem, q0, q1, q2]) rfl ?_
          exact ⟨Wb, Cb, T, _, _, tv, av, rfl, by rw [E.out]; exact MX.out.res RX.out _ _ _, below3 BX.out _ _ _⟩
      · obtain rfl : k = r := by omega
        have i1 : ¬ (k : Int) < (k : Int) := by omega
        have E := hid (show min 12 cs.length = k by rw [HRL.out]; omega)
        have y0 : wr.cell? ⟨X, 0, none⟩ = some (.slice (some ⟨Wb, 0, none⟩) 8 8) := HX.out.cell 0
        have y1 : wr.cell? ⟨X, 1, none⟩ = some (.slice (some ⟨Cb, 0, none⟩) 2 2) := HX.out.cell 1
        have y2 : wr.cell? ⟨X, 2, none⟩ = some (.slice (some ⟨T, 0, none⟩) 3 3) := HX.out.cell 2
        have z0 := RX.out.frozen 0
        have z1 := RX.out.frozen 1
        have z2 := RX.out.frozen 2
        have z3 : wr.cell? ⟨w.heap.size, 0, none⟩ = some (.slice none 0 0) := RX.out.cell 0
        have z4 : wr.cell? ⟨w.heap.size, 1, none⟩ = some (.slice none 0 0) := RX.out.cell 1
        have z5 : wr.cell? ⟨w.heap.size, 2, none⟩ = some (.slice none 0 0) := RX.out.cell 2
        go_wp2
        obtain ⟨q0, q1, q2⟩ := set3 RX.out (.slice (some ⟨Wb, 0, none⟩) 8 8) (.slice (some ⟨Cb, 0, none⟩) 2 2) (.slice (some ⟨T, 0, none⟩) 3 3)
        refine bodyPost_ret (v := .agg #[.slice (some ⟨Wb, 0, none⟩) 8 8, .slice (some ⟨Cb, 0, none⟩) 2 2, .slice (some ⟨T, 0, none⟩) 3 3]) (by simp [results, Tryd.results18, go_sem, q0, q1, q2]) rfl ?_
        exact ⟨Wb, Cb, T, _, _, tv, av, rfl, by rw [E.out]; exact MX.out.res RX.out _ _ _, below3 BX.out _ _ _⟩
end Go.Proofs.YtljdnbdmfhcmpaaDoor
