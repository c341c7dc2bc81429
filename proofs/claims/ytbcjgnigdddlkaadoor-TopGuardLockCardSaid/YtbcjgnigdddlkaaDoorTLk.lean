/-
  barographtop.guarded: its walk. Written by gen_guarded.py. barographtop.kept: its walk: true where the last word is as many as the second calls that have ended, and no more than one is under way. TopGuardLock: its walk. Written by gen_topguard.py. (Merged by merge.py.)
-/
import Derived.Test.YtbcjgnigdddlkaaDoorMBun
import Derived.Test.YtbcjgnigdddlkaaDoorKeep16
import Derived.Test.YtbcjgnigdddlkaaDoorRunMay
import Derived.Test.YtbcjgnigdddlkaaDoorGLk
import Derived.Deep.RegionHeld
import Derived.Test.YtbcjgnigdddlkaaDoorRunSure
import Derived.Test.YtbcjgnigdddlkaaDoorRan
import Derived.Test.YtbcjgnigdddlkaaDoorSched
namespace Go.Proofs.YtbcjgnigdddlkaaDoor
set_option linter.unusedVariables false

section
open Go.RowKit
theorem mk_arrL (n : Nat) : madeCells #[Value.slice none 0 0] n = arrN (fun _ => .slice none 0 0) n := by
  apply Array.ext'
  rw [Go.toList_madeCells_one]
  unfold arrN
  refine List.ext_getElem? fun j => ?_
  simp [List.getElem?_replicate]
  try split <;> simp_all
/-- what the thread t calls, i times -/
def ground (nm : Bool) (t : Nat) : List VCall := [⟨0, if nm then [(t : Int)] else []⟩, ⟨2, []⟩, ⟨1, if nm then [(t : Int)] else []⟩]
def gcalls (nm : Bool) (t : Nat) : Nat → List VCall
  | 0 => []
  | i + 1 => gcalls nm t i ++ ground nm t
def gths (nm : Bool) (t i : Nat) (j : Nat) : List VCall := if j < t then gcalls nm j 6 else if j = t then gcalls nm t i else []
theorem gths_zero (nm : Bool) : gths nm 0 0 = fun _ => [] := by
  funext j; unfold gths; simp [gcalls]
theorem gths_upd (nm : Bool) (t i : Nat) : upd (gths nm t i) t (gths nm t i t ++ ground nm t) = gths nm t (i + 1) := by
  funext j
  unfold upd gths
  by_cases h : j = t
  · subst h; simp [gcalls]
  · simp [h]
theorem gths_next (nm : Bool) (t : Nat) : gths nm t 6 = gths nm (t + 1) 0 := by
  funext j
  unfold gths
  by_cases h : j < t
  · simp [h, Nat.lt_succ_of_lt h]
  · by_cases h2 : j = t
    · subst h2; simp
    · simp [h, h2, show ¬ j < t + 1 by omega, gcalls]
theorem gcalls_len (nm : Bool) (t : Nat) : ∀ i, (gcalls nm t i).length = 3 * i
  | 0 => rfl
  | i + 1 => by rw [gcalls, List.length_append, gcalls_len nm t i]; simp [ground]; omega
theorem blkM (w : World) (t : TypeId) (cs : Array Value) (g : Nat) (h : w.heap.size = g) : Blk (w.alloc (.cells cs t)) g t cs := by subst h; exact Blk.new w t cs
theorem blk_slG {w : World} {g t : Nat} {cs : Array Value} (h : Blk w g t cs) (sz n : Nat) (hs : cs.size = n * sz) : Sl w sz (some ⟨g, 0, none⟩) n cs.toList :=
  ⟨by simpa using hs, fun _ => ⟨_, rfl, fun j u hu => by rw [ad_at, h.cell j]; simpa using hu⟩⟩
/-- the region that builds the machine -/
structure GrdR (w0 : World) (Wv Iv Ov Av : Value) (ws : List Int) (n : Nat) (L : Nat → Bool) (x30 x31 x32 x33 x34 x35 x36 x37 x38 x39 x40 x16 : Value) (w : World) : Prop where
  b : Below w0.heap.size w0 w
  f0 : L 0 = true → x30 = Wv
  f1 : L 1 = true → L 3 = false → Ow w0 w 3 1 gI x31 ws
  f2 : L 2 = true → L 3 = false → ∃ b, x32 = .slice (some ⟨b, 0, none⟩) 1 1 ∧ w0.heap.size ≤ b ∧ Blk w b 3 #[.int .i64 0]
  f3 : L 3 = true → Ow w0 w 3 1 gI x33 (ws ++ [0])
  f4 : L 4 = true → x34 = Iv
  f5 : L 5 = true → x35 = Ov
  f6 : L 6 = true → x36 = Av
  f7 : L 7 = true → ∃ b, x37 = .slice (some ⟨b, 0, none⟩) 3 3 ∧ w0.heap.size ≤ b ∧ Blk w b 28 #[x34, x35, x36]
  f8 : L 8 = true → x38 = .int .i64 (n : Int)
  f9 : L 9 = true → ∃ b, x39 = .slice (some ⟨b, 0, none⟩) n n ∧ w0.heap.size ≤ b ∧ Blk w b 50 (arrN (fun _ => Value.slice none 0 0) n)
  f10 : L 10 = true → x40 = .agg #[x33, x37, x39]
  f11 : L 11 = true → L 12 = false → ∃ b, x16 = .pointer (some ⟨b, 0, none⟩) ∧ w0.heap.size ≤ b ∧ Blk w b 34 #[.slice none 0 0, .slice none 0 0, .slice none 0 0]
  f12 : L 12 = true → ∃ b, x16 = .pointer (some ⟨b, 0, none⟩) ∧ w0.heap.size ≤ b ∧ Blk w b 34 #[x33, x37, x39]
section
variable {w0 : World} {Wv Iv Ov Av : Value} {ws : List Int} {n : Nat} {L : Nat → Bool} {x30 x31 x32 x33 x34 x35 x36 x37 x38 x39 x40 x16 : Value} {w w' : World}
theorem GrdR.below (h : GrdR w0 Wv Iv Ov Av ws n L x30 x31 x32 x33 x34 x35 x36 x37 x38 x39 x40 x16 w) (hb : Below w.heap.size w w') : GrdR w0 Wv Iv Ov Av ws n L x30 x31 x32 x33 x34 x35 x36 x37 x38 x39 x40 x16 w' where
  b := bgo h.b hb
  f0 := h.f0
  f4 := h.f4
  f5 := h.f5
  f6 := h.f6
  f8 := h.f8
  f10 := h.f10
  f1 := fun e e' => (h.f1 e e').step hb
  f3 := fun e => (h.f3 e).step hb
  f7 := fun e => by obtain ⟨b, h1, h2, h3⟩ := h.f7 e; exact ⟨b, h1, h2, h3.below' hb⟩
  f9 := fun e => by obtain ⟨b, h1, h2, h3⟩ := h.f9 e; exact ⟨b, h1, h2, h3.below' hb⟩
  f12 := fun e => by obtain ⟨b, h1, h2, h3⟩ := h.f12 e; exact ⟨b, h1, h2, h3.below' hb⟩
  f2 := fun e e' => by obtain ⟨b, h1, h2, h3⟩ := h.f2 e e'; exact ⟨b, h1, h2, h3.below' hb⟩
  f11 := fun e e' => by obtain ⟨b, h1, h2, h3⟩ := h.f11 e e'; exact ⟨b, h1, h2, h3.below' hb⟩
theorem GrdR.grow {L' : Nat → Bool} {v3 : Value} (h : GrdR w0 Wv Iv Ov Av ws n L x30 x31 x32 x33 x34 x35 x36 x37 x38 x39 x40 x16 w) (h1 : Ow w0 w 3 1 gI x31 ws) (hG : w.grownBy w' x31.ownBlock) (h3 : Ow w0 w' 3 1 gI v3 (ws ++ [0])) (hL : ∀ i, i ≠ 3 → L' i = L i) (hL3 : L' 3 = true) (n10 : L 10 ≠ true) (n12 : L 12 ≠ true) : GrdR w0 Wv Iv Ov Av ws n L' x30 x31 x32 v3 x34 x35 x36 x37 x38 x39 x40 x16 w' := by
  have hC := Chg.of_grown hG (M := fun k => x31.ownBlock = some k) (fun k e => e)
  have bk : ∀ {g t : Nat} {cs : Array Value}, 3 ≠ t → Blk w g t cs → Blk w' g t cs := fun h2 h4 => hC.blk h4 (own_ne_blk h1.own h4 h2)
  have e0 := hL 0 (by decide)
  have e1 := hL 1 (by decide)
  have e2 := hL 2 (by decide)
  have e4 := hL 4 (by decide)
  have e5 := hL 5 (by decide)
  have e6 := hL 6 (by decide)
  have e7 := hL 7 (by decide)
  have e8 := hL 8 (by decide)
  have e9 := hL 9 (by decide)
  have e10 := hL 10 (by decide)
  have e11 := hL 11 (by decide)
  have e12 := hL 12 (by decide)
  refine ⟨h3.below, ?_, ?_, ?_, ?_, ?_, ?_, ?_, ?_, ?_, ?_, ?_, ?_, ?_⟩
  · rw [e0]; exact h.f0
  · intro _ e; rw [hL3] at e; cases e
  · intro _ e; rw [hL3] at e; cases e
  · intro _; exact h3
  · rw [e4]; exact h.f4
  · rw [e5]; exact h.f5
  · rw [e6]; exact h.f6
  · rw [e7]; intro e; obtain ⟨b, h1, h2, h3⟩ := h.f7 e; exact ⟨b, h1, h2, bk (by decide) h3⟩
  · rw [e8]; exact h.f8
  · rw [e9]; intro e; obtain ⟨b, h1, h2, h3⟩ := h.f9 e; exact ⟨b, h1, h2, bk (by decide) h3⟩
  · rw [e10]; intro e; exact absurd e n10
  · rw [e11, e12]; intro e e'; obtain ⟨b, h1, h2, h3⟩ := h.f11 e e'; exact ⟨b, h1, h2, bk (by decide) h3⟩
  · rw [e12]; intro e; exact absurd e n12
theorem GrdR.store {X : Nat} {L' : Nat → Bool} (h : GrdR w0 Wv Iv Ov Av ws n L x30 x31 x32 x33 x34 x35 x36 x37 x38 x39 x40 (.pointer (some ⟨X, 0, none⟩)) w) (hX : w0.heap.size ≤ X) (hb : Blk w X 34 #[.slice none 0 0, .slice none 0 0, .slice none 0 0]) (hL : ∀ i, i ≠ 12 → L' i = L i) (h9 : L' 12 = true) : GrdR w0 Wv Iv Ov Av ws n L' x30 x31 x32 x33 x34 x35 x36 x37 x38 x39 x40 (.pointer (some ⟨X, 0, none⟩)) (((w.setCell ⟨X, 0, none⟩ x33).setCell ⟨X, 1, none⟩ x37).setCell ⟨X, 2, none⟩ x39) := by
  have hC : Chg (fun k => k = X) w (((w.setCell ⟨X, 0, none⟩ x33).setCell ⟨X, 1, none⟩ x37).setCell ⟨X, 2, none⟩ x39) :=
    (((Chg.refl (fun k => k = X) w).setCell (p := ⟨X, 0, none⟩) (fun _ => rfl) _).setCell (p := ⟨X, 1, none⟩) (fun _ => rfl) _).setCell (p := ⟨X, 2, none⟩) (fun _ => rfl) _
  have bk : ∀ {g t : Nat} {cs : Array Value}, t ≠ 34 → Blk w g t cs → Blk (((w.setCell ⟨X, 0, none⟩ x33).setCell ⟨X, 1, none⟩ x37).setCell ⟨X, 2, none⟩ x39) g t cs := fun h1 h2 => hC.blk h2 fun e => by subst e; exact h1 (blk_ty h2 hb)
  have hBl : Below w0.heap.size w0 (((w.setCell ⟨X, 0, none⟩ x33).setCell ⟨X, 1, none⟩ x37).setCell ⟨X, 2, none⟩ x39) := ((h.b.setCell (p := ⟨X, 0, none⟩) hX _).setCell (p := ⟨X, 1, none⟩) hX _).setCell (p := ⟨X, 2, none⟩) hX _
  have ow : ∀ {v : Value} {l : List Int}, Ow w0 w 3 1 gI v l → Ow w0 (((w.setCell ⟨X, 0, none⟩ x33).setCell ⟨X, 1, none⟩ x37).setCell ⟨X, 2, none⟩ x39) 3 1 gI v l := fun h1 => ⟨own_chg h1.own hC fun k hk e => own_ne_blk h1.own hb (by decide) (by rw [hk, e]), hBl⟩
  have e0 := hL 0 (by decide)
  have e1 := hL 1 (by decide)
  have e2 := hL 2 (by decide)
  have e3 := hL 3 (by decide)
  have e4 := hL 4 (by decide)
  have e5 := hL 5 (by decide)
  have e6 := hL 6 (by decide)
  have e7 := hL 7 (by decide)
  have e8 := hL 8 (by decide)
  have e9 := hL 9 (by decide)
  have e10 := hL 10 (by decide)
  have e11 := hL 11 (by decide)
  refine ⟨hBl, ?_, ?_, ?_, ?_, ?_, ?_, ?_, ?_, ?_, ?_, ?_, ?_, ?_⟩
  · rw [e0]; exact h.f0
  · rw [e1, e3]; intro e e'; exact ow (h.f1 e e')
  · rw [e2, e3]; intro e e'; obtain ⟨b, h1, h2, h3⟩ := h.f2 e e'; exact ⟨b, h1, h2, bk (by decide) h3⟩
  · rw [e3]; intro e; exact ow (h.f3 e)
  · rw [e4]; exact h.f4
  · rw [e5]; exact h.f5
  · rw [e6]; exact h.f6
  · rw [e7]; intro e; obtain ⟨b, h1, h2, h3⟩ := h.f7 e; exact ⟨b, h1, h2, bk (by decide) h3⟩
  · rw [e8]; exact h.f8
  · rw [e9]; intro e; obtain ⟨b, h1, h2, h3⟩ := h.f9 e; exact ⟨b, h1, h2, bk (by decide) h3⟩
  · rw [e10]; exact h.f10
  · intro _ e; rw [h9] at e; cases e
  · intro _; exact ⟨X, rfl, hX, ((hb.set_ 0 _).set_ 1 _).set_ 2 _⟩
end
theorem gcode_sh (W : Nat) : ∀ o ∈ gcode W, OpSh (gcode W).length o := by
  intro o ho
  simp only [gcode, List.mem_cons, List.not_mem_nil, or_false] at ho
  rcases ho with rfl | rfl | rfl | rfl <;> first | exact ⟨by decide, by decide, by decide, by decide, by decide⟩ | exact ⟨by simp, by simp, by simp, by simp, by simp⟩
theorem gcalls_mem (nm : Bool) (t : Nat) : ∀ (i : Nat) (c : VCall), c ∈ gcalls nm t i → c.code < 3 ∧ c.args.length ≤ 8
  | 0, c, h => by cases h
  | i + 1, c, h => by
    rcases List.mem_append.1 (show c ∈ gcalls nm t i ++ ground nm t from h) with h1 | h1
    · exact gcalls_mem nm t i c h1
    · simp only [ground, List.mem_cons, List.not_mem_nil, or_false] at h1
      rcases h1 with rfl | rfl | rfl <;> cases nm <;> exact ⟨by simp, by simp⟩
/-- the machine -/
def gmachN (nm : Bool) (n nw : Nat) (ws : List Int) (k1 k2 : List Op5) : Mach := ⟨ws, [k1, k2, gcode nw], (List.range n).map (gths nm n 0)⟩
theorem gmach_at {B : Nat} {w : World} {Cb T n nw : Nat} {cv tv : Nat → Value} {av : Nat → List SV} {nm : Bool} {ws : List Int} {k1 k2 : List Op5} (h : MN B w 3 n Cb T cv (fun i => [k1, k2, gcode nw].getD i []) tv (gths nm n 0) av)
    (h4 : n ≤ 4) (s1 : k1.length ≤ 200 ∧ ∀ o ∈ k1, OpSh k1.length o) (s2 : k2.length ≤ 200 ∧ ∀ o ∈ k2, OpSh k2.length o) (hnw : nw ≤ 9) : MachAt w (some ⟨Cb, 0, none⟩) 3 (some ⟨T, 0, none⟩) n (gmachN nm n nw ws k1 k2) := by
  refine h.at_ rfl rfl (fun i hi => ?_) (fun j hj => ?_)
  · rcases (show i = 0 ∨ i = 1 ∨ i = 2 by omega) with rfl | rfl | rfl
    · exact s1
    · exact s2
    · exact ⟨Nat.le_of_ble_eq_true rfl, gcode_sh nw⟩
  · have e : gths nm n 0 j = gcalls nm j 6 := by unfold gths; rw [if_pos hj]
    rw [e]
    exact ⟨by rw [gcalls_len]; omega, gcalls_mem nm j 6⟩
/-- what guarded gives -/
def GuardPost (W0 : World) (n nw : Nat) (nm : Bool) (ws : List Int) (k1 k2 : List Op5) (e : Ending) (w' : World) : Prop :=
  ∃ (AW : Option Addr) (cW Cb T : Nat) (cv tv : Nat → Value) (av : Nat → List SV), e = .returned (.tuple #[.agg #[.slice AW (ws ++ [0]).length cW, .slice (some ⟨Cb, 0, none⟩) 3 3, .slice (some ⟨T, 0, none⟩) n n], .bool true]) ∧
    w'.ownsRow W0.heap.size 3 1 (.slice AW (ws ++ [0]).length cW) (ws ++ [0]).length ((ws ++ [0]).flatMap gI) ∧ MN W0.heap.size w' 3 n Cb T cv (fun i => [k1, k2, gcode nw].getD i []) tv (gths nm n 0) av ∧ Below W0.heap.size W0 w'
set_option maxHeartbeats 8000000 in
set_option maxRecDepth 100000 in
theorem guarded_of (n nw n1 n2 : Nat) (AW A1 A2 : Option Addr) (cw c1 c2 : Nat) (nm : Bool) (ws : List Int) (k1 k2 : List Op5) (W0 w : World) (h1 : 1 ≤ n) (h4 : n ≤ 4) (hnw : 0 < nw) (hnw9 : nw ≤ 9) (hB : Below W0.heap.size W0 w) (hW : Sl w 1 AW nw (ints ws))
    (hC1 : w.ownsRow W0.heap.size 71 5 (.slice A1 n1 c1) n1 (k1.flatMap gO)) (hC2 : w.ownsRow W0.heap.size 71 5 (.slice A2 n2 c2) n2 (k2.flatMap gO)) (hn1 : 0 < n1) (hn2 : 0 < n2) (hl1 : k1.length = n1) (hl2 : k2.length = n2) (hS1 : k1.length ≤ 200 ∧ ∀ o ∈ k1, OpSh k1.length o) (hS2 : k2.length ≤ 200 ∧ ∀ o ∈ k2, OpSh k2.length o) (hT : STab W0) :
    Calls Tryd.prog 21 #[.slice AW nw cw, .slice A1 n1 c1, .slice A2 n2 c2, .int .i64 (n : Int), .int .i64 6, .bool nm] w fun e w' => GuardPost W0 n nw nm ws k1 k2 e w' := by
  have HW := hid hW; have HC1 := hid hC1; have HC2 := hid hC2; have HT := hid hT; have HB := hid hB; have HS1 := hid hS1; have HS2 := hid hS2
  have HWL := hid (show ws.length = nw from hW.leni)
  clear hW hC1 hC2 hT hB hS1 hS2
  have in4 : (n : Int) ≤ 4 := by omega
  go_enter Tryd.func21, Tryd.ntmps21
  go_upto_region 2 with fail
  have HG := hid (Blk.new w 34 #[.slice none 0 0, .slice none 0 0, .slice none 0 0])
  have B0 := hid (bnew (bnil w) (.cells #[.slice none 0 0, .slice none 0 0, .slice none 0 0] 34))
  generalize World.alloc w (.cells #[.slice none 0 0, .slice none 0 0, .slice none 0 0] 34) = w0 at *
  go_upto_region 3 with fail
  have HA := hid (show (w0.alloc (.cells #[.int .i64 1, .int .i64 1, .int .i64 1, .int .i64 0, .int .i64 0, .int .i64 13, .int .i64 0, .int .i64 5, .int .i64 (nw : Int), .int .i64 0, .int .i64 3, .int .i64 0, .int .i64 0, .int .i64 1, .int .i64 0, .int .i64 14, .int .i64 0, .int .i64 5, .int .i64 (nw : Int), .int .i64 0] 71)).ownsRow W0.heap.size 71 5 (.slice (some ⟨w0.heap.size, 0, none⟩) 4 4) 4 ((gcode nw).flatMap gO) from
    ⟨rfl, .inr ⟨w0.heap.size, 4, #[.int .i64 1, .int .i64 1, .int .i64 1, .int .i64 0, .int .i64 0, .int .i64 13, .int .i64 0, .int .i64 5, .int .i64 (nw : Int), .int .i64 0, .int .i64 3, .int .i64 0, .int .i64 0, .int .i64 1, .int .i64 0, .int .i64 14, .int .i64 0, .int .i64 5, .int .i64 (nw : Int), .int .i64 0], rfl, (bgo HB.out B0.out).size, Blk.new w0 _ _, Nat.le_refl _, by unfold maxLen; omega, rfl, rfl⟩⟩)
  have B1 := hid (bgo B0.out (bnew (bnil w0) (.cells #[.int .i64 1, .int .i64 1, .int .i64 1, .int .i64 0, .int .i64 0, .int .i64 13, .int .i64 0, .int .i64 5, .int .i64 (nw : Int), .int .i64 0, .int .i64 3, .int .i64 0, .int .i64 0, .int .i64 1, .int .i64 0, .int .i64 14, .int .i64 0, .int .i64 5, .int .i64 (nw : Int), .int .i64 0] 71)))
  have HG1 := hid (HG.out.below' (bnew (bnil w0) (.cells #[.int .i64 1, .int .i64 1, .int .i64 1, .int .i64 0, .int .i64 0, .int .i64 13, .int .i64 0, .int .i64 5, .int .i64 (nw : Int), .int .i64 0, .int .i64 3, .int .i64 0, .int .i64 0, .int .i64 1, .int .i64 0, .int .i64 14, .int .i64 0, .int .i64 5, .int .i64 (nw : Int), .int .i64 0] 71)))
  obtain ⟨ga, hga⟩ : ∃ ga, w0.heap.size = ga := ⟨_, rfl⟩
  rw [hga] at HA
  try rw [hga]
  clear hga HG
  generalize World.alloc w0 (.cells #[.int .i64 1, .int .i64 1, .int .i64 1, .int .i64 0, .int .i64 0, .int .i64 13, .int .i64 0, .int .i64 5, .int .i64 (nw : Int), .int .i64 0, .int .i64 3, .int .i64 0, .int .i64 0, .int .i64 1, .int .i64 0, .int .i64 14, .int .i64 0, .int .i64 5, .int .i64 (nw : Int), .int .i64 0] 71) = w3 at *
  have HW3 := hid (HW.out.below B1.out)
  refine wp_region_inv (by kernel_rfl) (fun a0 L a wr => ∃ x30 x31 x32 x33 x34 x35 x36 x37 x38 x39 x40 x16, a = ((((((((((((a0.put (some 30) x30).put (some 31) x31).put (some 32) x32).put (some 33) x33).put (some 34) x34).put (some 35) x35).put (some 36) x36).put (some 37) x37).put (some 38) x38).put (some 39) x39).put (some 40) x40).put (some 16) x16) ∧ GrdR w3 (.slice AW nw cw) (.slice A1 n1 c1) (.slice A2 n2 c2) (.slice (some ⟨ga, 0, none⟩) 4 4) ws n L x30 x31 x32 x33 x34 x35 x36 x37 x38 x39 x40 x16 wr) (by kernel_rfl) ?_ ?_ ?_
  · exact ⟨undef, undef, undef, undef, undef, undef, undef, undef, undef, undef, undef, undef, by kernel_rfl, ⟨(bnil w3).drew, (fun h => by cases h), (fun h _ => by cases h), (fun h _ => by cases h), (fun h => by cases h), (fun h => by cases h), (fun h => by cases h), (fun h => by cases h), (fun h => by cases h), (fun h => by cases h), (fun h => by cases h), (fun h => by cases h), (fun h _ => by cases h), (fun h => by cases h)⟩⟩
  · intro j hj L b wr hR hLj hcl hpre
    obtain ⟨x30, x31, x32, x33, x34, x35, x36, x37, x38, x39, x40, x16, rfl, H⟩ := hR
    have hj' : j = 0 ∨ j = 1 ∨ j = 2 ∨ j = 3 ∨ j = 4 ∨ j = 5 ∨ j = 6 ∨ j = 7 ∨ j = 8 ∨ j = 9 ∨ j = 10 ∨ j = 11 ∨ j = 12 := by
      have : j < 13 := hj
      omega
    have lt0 := H.b.size
    rcases hj' with rfl | rfl | rfl | rfl | rfl | rfl | rfl | rfl | rfl | rfl | rfl | rfl | rfl
    · clear hcl hpre
      refine wpOp_at rfl rfl fun K hK => ?_
      go_simp
      exact hK _ _ ⟨(.slice AW nw cw), x31, x32, x33, x34, x35, x36, x37, x38, x39, x40, x16, by kernel_rfl, ⟨H.b, fun _ => rfl, H.f1, H.f2, H.f3, H.f4, H.f5, H.f6, H.f7, H.f8, H.f9, H.f10, H.f11, H.f12⟩⟩
    · have n3 : L 3 ≠ true := fun e => by have := hcl 3 1 (by kernel_rfl) e; rw [hLj] at this; cases this
      have e0 := H.f0 (hpre 0 (by kernel_rfl))
      clear hcl hpre
      refine wpOp_at rfl rfl fun K hK => ?_
      subst e0
      refine wp_appY (A := AW) (n := nw) (c := cw) elmI gI_one (.const (.slice none 0 0)) (.tmp 30) (by kernel_rfl) (.slice none 0 0) [] (by kernel_rfl) (Ow.nil' H.b _ 1 _) ws ws (hid rfl) (by kernel_rfl) (HW3.out.below H.b) HWL.out (by rw [HWL.out]; unfold maxLen; omega) (by rw [HWL.out]; omega) ?_
      intro A8 c8 w8 _ _ HN8 HG8
      have Hb := H.below (grown_nil HG8.out)
      exact hK _ _ ⟨_, (.slice A8 ws.length c8), x32, x33, x34, x35, x36, x37, x38, x39, x40, x16, by kernel_rfl, ⟨Hb.b, Hb.f0, fun _ _ => HN8.out, Hb.f2, fun e => absurd e n3, Hb.f4, Hb.f5, Hb.f6, Hb.f7, Hb.f8, Hb.f9, Hb.f10, Hb.f11, Hb.f12⟩⟩
    · have n3 : L 3 ≠ true := fun e => by have := hcl 3 2 (by kernel_rfl) e; rw [hLj] at this; cases this
      clear hcl hpre
      refine wpOp_at rfl rfl fun K hK => ?_
      go_simp
      have Hb := H.below (bnew (bnil wr) (.cells #[.int .i64 0] 3))
      exact hK _ _ ⟨x30, x31, .slice (some ⟨wr.heap.size, 0, none⟩) 1 1, x33, x34, x35, x36, x37, x38, x39, x40, x16, by kernel_rfl, ⟨Hb.b, Hb.f0, Hb.f1, fun _ _ => ⟨wr.heap.size, rfl, lt0, Blk.new wr _ _⟩, fun e => absurd e n3, Hb.f4, Hb.f5, Hb.f6, Hb.f7, Hb.f8, Hb.f9, Hb.f10, Hb.f11, Hb.f12⟩⟩
    · have n10 : L 10 ≠ true := fun e => by have := hcl 10 3 (by kernel_rfl) e; rw [hLj] at this; cases this
      have n12 : L 12 ≠ true := fun e => by have := hcl 12 3 (by kernel_rfl) e; rw [hLj] at this; cases this
      have o1 := H.f1 (hpre 1 (by kernel_rfl)) hLj
      obtain ⟨b2, e2, _, k2⟩ := H.f2 (hpre 2 (by kernel_rfl)) hLj
      obtain ⟨A8, c8, e1, _, _⟩ := o1.form
      clear hcl hpre
      refine wpOp_at rfl rfl fun K hK => ?_
      subst e1; subst e2
      refine wp_appY (A := some ⟨b2, 0, none⟩) (n := 1) (c := 1) elmI gI_one (.tmp 31) (.tmp 32) (by kernel_rfl) (.slice A8 ws.length c8) ws (by kernel_rfl) o1 [(0 : Int)] (ws ++ [0]) (hid rfl) (by kernel_rfl) (blk_slG k2 1 1 rfl) rfl (by rw [List.length_append, HWL.out]; unfold maxLen; simp; omega) (by rw [List.length_append, HWL.out]; simp; omega) ?_
      intro A9 c9 w9 _ _ HN9 HG9
      exact hK _ _ ⟨x30, _, _, (.slice A9 (ws ++ [0]).length c9), x34, x35, x36, x37, x38, x39, x40, x16, by kernel_rfl, H.grow o1 HG9.out HN9.out (fun i hi => by simp [hi]) (by simp) n10 n12⟩
    · have n7 : L 7 ≠ true := fun e => by have := hcl 7 4 (by kernel_rfl) e; rw [hLj] at this; cases this
      clear hcl hpre
      refine wpOp_at rfl rfl fun K hK => ?_
      go_simp
      exact hK _ _ ⟨x30, x31, x32, x33, (.slice A1 n1 c1), x35, x36, x37, x38, x39, x40, x16, by kernel_rfl, ⟨H.b, H.f0, H.f1, H.f2, H.f3, fun _ => rfl, H.f5, H.f6, fun e => absurd e n7, H.f8, H.f9, H.f10, H.f11, H.f12⟩⟩
    · have n7 : L 7 ≠ true := fun e => by have := hcl 7 5 (by kernel_rfl) e; rw [hLj] at this; cases this
      clear hcl hpre
      refine wpOp_at rfl rfl fun K hK => ?_
      go_simp
      exact hK _ _ ⟨x30, x31, x32, x33, x34, (.slice A2 n2 c2), x36, x37, x38, x39, x40, x16, by kernel_rfl, ⟨H.b, H.f0, H.f1, H.f2, H.f3, H.f4, fun _ => rfl, H.f6, fun e => absurd e n7, H.f8, H.f9, H.f10, H.f11, H.f12⟩⟩
    · have n7 : L 7 ≠ true := fun e => by have := hcl 7 6 (by kernel_rfl) e; rw [hLj] at this; cases this
      clear hcl hpre
      refine wpOp_at rfl rfl fun K hK => ?_
      go_simp
      exact hK _ _ ⟨x30, x31, x32, x33, x34, x35, (.slice (some ⟨ga, 0, none⟩) 4 4), x37, x38, x39, x40, x16, by kernel_rfl, ⟨H.b, H.f0, H.f1, H.f2, H.f3, H.f4, H.f5, fun _ => rfl, fun e => absurd e n7, H.f8, H.f9, H.f10, H.f11, H.f12⟩⟩
    · have n10 : L 10 ≠ true := fun e => by have := hcl 10 7 (by kernel_rfl) e; rw [hLj] at this; cases this
      have n12 : L 12 ≠ true := fun e => by have := hcl 12 7 (by kernel_rfl) e; rw [hLj] at this; cases this
      have e4 := H.f4 (hpre 4 (by kernel_rfl))
      have e5 := H.f5 (hpre 5 (by kernel_rfl))
      have e6 := H.f6 (hpre 6 (by kernel_rfl))
      clear hcl hpre
      refine wpOp_at rfl rfl fun K hK => ?_
      subst e4; subst e5; subst e6
      go_simp
      have Hb := H.below (bnew (bnil wr) (.cells #[(.slice A1 n1 c1), (.slice A2 n2 c2), (.slice (some ⟨ga, 0, none⟩) 4 4)] 28))
      exact hK _ _ ⟨x30, x31, x32, x33, _, _, _, .slice (some ⟨wr.heap.size, 0, none⟩) 3 3, x38, x39, x40, x16, by kernel_rfl, ⟨Hb.b, Hb.f0, Hb.f1, Hb.f2, Hb.f3, Hb.f4, Hb.f5, Hb.f6, fun _ => ⟨wr.heap.size, rfl, lt0, Blk.new wr _ _⟩, Hb.f8, Hb.f9, fun e => absurd e n10, Hb.f11, fun e => absurd e n12⟩⟩
    · clear hcl hpre
      refine wpOp_at rfl rfl fun K hK => ?_
      go_simp
      exact hK _ _ ⟨x30, x31, x32, x33, x34, x35, x36, x37, .int .i64 (n : Int), x39, x40, x16, by kernel_rfl, ⟨H.b, H.f0, H.f1, H.f2, H.f3, H.f4, H.f5, H.f6, H.f7, fun _ => rfl, H.f9, H.f10, H.f11, H.f12⟩⟩
    · have n10 : L 10 ≠ true := fun e => by have := hcl 10 9 (by kernel_rfl) e; rw [hLj] at this; cases this
      have n12 : L 12 ≠ true := fun e => by have := hcl 12 9 (by kernel_rfl) e; rw [hLj] at this; cases this
      have e8 := H.f8 (hpre 8 (by kernel_rfl))
      clear hcl hpre
      refine wpOp_at rfl rfl fun K hK => ?_
      subst e8
      have hmk := mkT wr n (by omega) _ (mk_arrL n)
      go_simp
      have Hb := H.below (bnew (bnil wr) (.cells (arrN (fun _ => Value.slice none 0 0) n) 50))
      exact hK _ _ ⟨x30, x31, x32, x33, x34, x35, x36, x37, _, .slice (some ⟨wr.heap.size, 0, none⟩) n n, x40, x16, by kernel_rfl, ⟨Hb.b, Hb.f0, Hb.f1, Hb.f2, Hb.f3, Hb.f4, Hb.f5, Hb.f6, Hb.f7, Hb.f8, fun _ => ⟨wr.heap.size, rfl, lt0, Blk.new wr _ _⟩, fun e => absurd e n10, Hb.f11, fun e => absurd e n12⟩⟩
    · have n12 : L 12 ≠ true := fun e => by have := hcl 12 10 (by kernel_rfl) e; rw [hLj] at this; cases this
      obtain ⟨A9, c9, e3, _, _⟩ := (H.f3 (hpre 3 (by kernel_rfl))).form
      obtain ⟨b7, e7, _⟩ := H.f7 (hpre 7 (by kernel_rfl))
      obtain ⟨b9, e9, _⟩ := H.f9 (hpre 9 (by kernel_rfl))
      obtain ⟨N9, hN9⟩ : ∃ N, (ws ++ [0]).length = N := ⟨_, rfl⟩
      rw [hN9] at e3
      clear hcl hpre hN9
      refine wpOp_at rfl rfl fun K hK => ?_
      subst e3; subst e7; subst e9
      go_simp
      exact hK _ _ ⟨x30, x31, x32, _, x34, x35, x36, _, x38, _, _, x16, by kernel_rfl, ⟨H.b, H.f0, H.f1, H.f2, H.f3, H.f4, H.f5, H.f6, H.f7, H.f8, H.f9, fun _ => rfl, H.f11, fun e => absurd e n12⟩⟩
    · have n12 : L 12 ≠ true := fun e => by have := hcl 12 11 (by kernel_rfl) e; rw [hLj] at this; cases this
      clear hcl hpre
      refine wpOp_at rfl rfl fun K hK => ?_
      go_simp
      have Hb := H.below (bnew (bnil wr) (.cells #[.slice none 0 0, .slice none 0 0, .slice none 0 0] 34))
      exact hK _ _ ⟨x30, x31, x32, x33, x34, x35, x36, x37, x38, x39, x40, .pointer (some ⟨wr.heap.size, 0, none⟩), by kernel_rfl, ⟨Hb.b, Hb.f0, Hb.f1, Hb.f2, Hb.f3, Hb.f4, Hb.f5, Hb.f6, Hb.f7, Hb.f8, Hb.f9, Hb.f10, fun _ _ => ⟨wr.heap.size, rfl, lt0, Blk.new wr _ _⟩, fun e => absurd e n12⟩⟩
    · have e10 := H.f10 (hpre 10 (by kernel_rfl))
      obtain ⟨A9, c9, e3, _, _⟩ := (H.f3 (hcl 10 3 (by kernel_rfl) (hpre 10 (by kernel_rfl)))).form
      obtain ⟨b7, e7, _⟩ := H.f7 (hcl 10 7 (by kernel_rfl) (hpre 10 (by kernel_rfl)))
      obtain ⟨b9, e9, _⟩ := H.f9 (hcl 10 9 (by kernel_rfl) (hpre 10 (by kernel_rfl)))
      obtain ⟨X, eM, hX, hB⟩ := H.f11 (hpre 11 (by kernel_rfl)) hLj
      obtain ⟨N9, hN9⟩ : ∃ N, (ws ++ [0]).length = N := ⟨_, rfl⟩
      rw [hN9] at e3
      clear hcl hpre hN9
      refine wpOp_at rfl rfl fun K hK => ?_
      subst e10; subst e3; subst e7; subst e9; subst eM
      have q0 := hB.cell 0; have q1 := hB.cell 1; have q2 := hB.cell 2
      have r0 := hB.frozen 0; have r1 := hB.frozen 1; have r2 := hB.frozen 2
      go_simp
      exact hK _ _ ⟨x30, x31, x32, _, x34, x35, x36, _, x38, _, _, _, by kernel_rfl, H.store hX hB (fun i hi => by simp [hi]) (by simp)⟩
  · intro L b wr hR hall
    obtain ⟨x30, x31, x32, x33, x34, x35, x36, x37, x38, x39, x40, x16, rfl, H⟩ := hR
    obtain ⟨X, rfl, hX, hB⟩ := H.f12 (hall 12 (by decide))
    have O3 := H.f3 (hall 3 (by decide))
    obtain ⟨AW2, cW2, e3, _, _⟩ := O3.form
    subst e3
    obtain ⟨Cb, rfl, hC, hCB⟩ := H.f7 (hall 7 (by decide))
    obtain ⟨T, rfl, hT, hTB⟩ := H.f9 (hall 9 (by decide))
    obtain rfl := H.f4 (hall 4 (by decide))
    obtain rfl := H.f5 (hall 5 (by decide))
    obtain rfl := H.f6 (hall 6 (by decide))
    have B2 := H.b
    have B02 := bgo HB.out B1.out
    have bw := B02.size
    have MM := hid (MN.start (B := W0.heap.size) (w := wr) (nc := 3) (nt := n) (cv := (fun i => [Value.slice A1 n1 c1, (.slice A2 n2 c2), (.slice (some ⟨ga, 0, none⟩) 4 4)].getD i undef)) (ks := (fun i => [k1, k2, gcode nw].getD i [])) (v := fun _ => undef) (Nat.le_trans bw hC) (Nat.le_trans bw hT) hCB hTB (fun i hi => by
      rcases (show i = 0 ∨ i = 1 ∨ i = 2 by omega) with rfl | rfl | rfl
      · show wr.ownsRow W0.heap.size 71 5 (.slice A1 n1 c1) k1.length (k1.flatMap gO)
        rw [hl1]; exact own_below HC1.out (bgo B1.out B2)
      · show wr.ownsRow W0.heap.size 71 5 (.slice A2 n2 c2) k2.length (k2.flatMap gO)
        rw [hl2]; exact own_below HC2.out (bgo B1.out B2)
      · exact own_below HA.out B2))
    have BU := hid (show MBun W0 wr w.heap.size nil3 w.heap.size X Cb T 3 n (.slice AW2 (ws ++ [0]).length cW2) (ws ++ [0]) (fun i => [Value.slice A1 n1 c1, (.slice A2 n2 c2), (.slice (some ⟨ga, 0, none⟩) 4 4)].getD i undef) (fun i => [k1, k2, gcode nw].getD i []) (fun _ => .slice none 0 0) (fun _ => []) (fun _ => []) from
      ⟨bgo B02 B2, HG1.out.below' B2, HG1.out.below' B2, hB, own_lower O3.own bw, MM.out⟩)
    clear MM hB hCB hTB hX hC hT H hall B2 B02 O3 HC1 HC2 HA HG1
    go_wp2_with fail
    go_loopw [17] (fun v wx => ∃ (t : Nat) (tv : Nat → Value) (av : Nat → List SV), t ≤ n ∧ v = .int .i64 t ∧ Hid (MBun W0 wx w.heap.size nil3 w.heap.size X Cb T 3 n (.slice AW2 (ws ++ [0]).length cW2) (ws ++ [0]) (fun i => [Value.slice A1 n1 c1, (.slice A2 n2 c2), (.slice (some ⟨ga, 0, none⟩) 4 4)].getD i undef) (fun i => [k1, k2, gcode nw].getD i []) tv (gths nm t 0) av)) (fun v _ => n - (intOf v).toNat)
    case atStart => exact ⟨0, _, _, Nat.zero_le _, rfl, (by rw [gths_zero]; exact BU)⟩
    case round =>
      clear BU
      obtain ⟨t, tv, av, htn, rfl, HX⟩ := hrel
      by_cases hk4 : t < n
      · have i4 : (t : Int) < (n : Int) := by omega
        go_wp2_with fail
        go_loopw [18] (fun v wy => ∃ (i : Nat) (tv : Nat → Value) (av : Nat → List SV), i ≤ 6 ∧ v = .int .i64 i ∧ Hid (MBun W0 wy w.heap.size nil3 w.heap.size X Cb T 3 n (.slice AW2 (ws ++ [0]).length cW2) (ws ++ [0]) (fun i => [Value.slice A1 n1 c1, (.slice A2 n2 c2), (.slice (some ⟨ga, 0, none⟩) 4 4)].getD i undef) (fun i => [k1, k2, gcode nw].getD i []) tv (gths nm t i) av)) (fun v _ => 6 - (intOf v).toNat)
        case atStart => exact ⟨0, tv, av, Nat.zero_le _, rfl, HX⟩
        case round =>
          clear HX
          clear tv av
          obtain ⟨i, tv, av, hio, rfl, HX⟩ := hrel
          by_cases hi : i < 6
          · have i5 : (i : Int) < 6 := by omega
            cases nm with
            | true =>
              go_upto_region 15 with fail
              have KX := hid (show Blk ((((wr.alloc (.cells #[.int .i64 0, .slice (some ⟨wr.heap.size + 1 + 1, 0, none⟩) 1 1] 49)).alloc (.cells #[.int .i64 1, .slice (some ⟨wr.heap.size + 1 + 1 + 1, 0, none⟩) 1 1] 49)).alloc (.cells #[.int .i64 (t : Int)] 3)).alloc (.cells #[.int .i64 (t : Int)] 3)) wr.heap.size 49 #[.int .i64 0, .slice (some ⟨wr.heap.size + 1 + 1, 0, none⟩) 1 1] from (((Blk.new wr _ _).alloc _).alloc _).alloc _)
              have KY := hid (show Blk ((((wr.alloc (.cells #[.int .i64 0, .slice (some ⟨wr.heap.size + 1 + 1, 0, none⟩) 1 1] 49)).alloc (.cells #[.int .i64 1, .slice (some ⟨wr.heap.size + 1 + 1 + 1, 0, none⟩) 1 1] 49)).alloc (.cells #[.int .i64 (t : Int)] 3)).alloc (.cells #[.int .i64 (t : Int)] 3)) (wr.heap.size + 1) 49 #[.int .i64 1, .slice (some ⟨wr.heap.size + 1 + 1 + 1, 0, none⟩) 1 1] from (((blkM (wr.alloc (.cells #[.int .i64 0, .slice (some ⟨wr.heap.size + 1 + 1, 0, none⟩) 1 1] 49)) _ _ _ (by simp)).alloc _).alloc _))
              have KA := hid (show Blk ((((wr.alloc (.cells #[.int .i64 0, .slice (some ⟨wr.heap.size + 1 + 1, 0, none⟩) 1 1] 49)).alloc (.cells #[.int .i64 1, .slice (some ⟨wr.heap.size + 1 + 1 + 1, 0, none⟩) 1 1] 49)).alloc (.cells #[.int .i64 (t : Int)] 3)).alloc (.cells #[.int .i64 (t : Int)] 3)) (wr.heap.size + 1 + 1) 3 #[.int .i64 (t : Int)] from ((blkM ((wr.alloc (.cells #[.int .i64 0, .slice (some ⟨wr.heap.size + 1 + 1, 0, none⟩) 1 1] 49)).alloc (.cells #[.int .i64 1, .slice (some ⟨wr.heap.size + 1 + 1 + 1, 0, none⟩) 1 1] 49)) _ _ _ (by simp)).alloc _))
              have KB := hid (show Blk ((((wr.alloc (.cells #[.int .i64 0, .slice (some ⟨wr.heap.size + 1 + 1, 0, none⟩) 1 1] 49)).alloc (.cells #[.int .i64 1, .slice (some ⟨wr.heap.size + 1 + 1 + 1, 0, none⟩) 1 1] 49)).alloc (.cells #[.int .i64 (t : Int)] 3)).alloc (.cells #[.int .i64 (t : Int)] 3)) (wr.heap.size + 1 + 1 + 1) 3 #[.int .i64 (t : Int)] from blkM (((wr.alloc (.cells #[.int .i64 0, .slice (some ⟨wr.heap.size + 1 + 1, 0, none⟩) 1 1] 49)).alloc (.cells #[.int .i64 1, .slice (some ⟨wr.heap.size + 1 + 1 + 1, 0, none⟩) 1 1] 49)).alloc (.cells #[.int .i64 (t : Int)] 3)) _ _ _ (by simp))
              have BY := hid (show Below wr.heap.size wr ((((wr.alloc (.cells #[.int .i64 0, .slice (some ⟨wr.heap.size + 1 + 1, 0, none⟩) 1 1] 49)).alloc (.cells #[.int .i64 1, .slice (some ⟨wr.heap.size + 1 + 1 + 1, 0, none⟩) 1 1] 49)).alloc (.cells #[.int .i64 (t : Int)] 3)).alloc (.cells #[.int .i64 (t : Int)] 3)) from bnew (bnew (bnew (bnew (bnil wr) _) _) _) _)
              generalize ((((wr.alloc (.cells #[.int .i64 0, .slice (some ⟨wr.heap.size + 1 + 1, 0, none⟩) 1 1] 49)).alloc (.cells #[.int .i64 1, .slice (some ⟨wr.heap.size + 1 + 1 + 1, 0, none⟩) 1 1] 49)).alloc (.cells #[.int .i64 (t : Int)] 3)).alloc (.cells #[.int .i64 (t : Int)] 3)) = wy at *
              have hge : W0.heap.size ≤ wr.heap.size := HX.out.below.size
              obtain ⟨gx, hgx⟩ : ∃ gx, wr.heap.size = gx := ⟨_, rfl⟩
              rw [hgx] at KX KY hge KA KB
              have HY := hid (HX.out.step BY.out)
              try rw [hgx]
              have HOF := hid (fun (w' : World) (hb : Below wy.heap.size wy w') => show ∀ (k' : Nat) (c : VCall) (a : SV), (ground true t)[k']? = some c → ([(⟨some ⟨gx + 1 + 1, 0, none⟩, 1, 1⟩ : SV), (⟨none, 0, 0⟩ : SV), (⟨some ⟨gx + 1 + 1 + 1, 0, none⟩, 1, 1⟩ : SV)] : List SV)[k']? = some a → w'.ownsRow W0.heap.size 3 1 a.v c.args.length (c.args.flatMap gI) from by
                intro k' c a hc ha
                match k', hc, ha with
                | 0, hc, ha => injection hc with hc; injection ha with ha; subst hc ha; exact ⟨rfl, .inr ⟨gx + 1 + 1, 1, #[.int .i64 (t : Int)], rfl, by omega, KA.out.below' hb, Nat.le_refl _, by unfold maxLen; omega, rfl, rfl⟩⟩
                | 1, hc, ha => injection hc with hc; injection ha with ha; subst hc ha; exact own0 _ _ _ _
                | 2, hc, ha => injection hc with hc; injection ha with ha; subst hc ha; exact ⟨rfl, .inr ⟨gx + 1 + 1 + 1, 1, #[.int .i64 (t : Int)], rfl, by omega, KB.out.below' hb, Nat.le_refl _, by unfold maxLen; omega, rfl, rfl⟩⟩
                | k + 3, hc, ha => cases ha)
              have hrl : (gths true t i t).length ≤ 15 := by unfold gths; rw [if_neg (Nat.lt_irrefl _), if_pos rfl, gcalls_len]; omega
              obtain ⟨Aj, cj, hAj, HR0⟩ := HY.out.row hk4
              have hapt : ∀ b, (tv t).ownBlock = some b → b < gx := fun b hb => by have := (own_ge (HX.out.mn.rows t hk4).2.1 b hb).2; omega
              have hgr := fun (wA w6 : World) (hb : Below wy.heap.size wy wA) (hG : wA.grownBy w6 (tv t).ownBlock) => HY.out.mn.grown hk4 hb hG
              obtain ⟨Lr, hL⟩ : ∃ Lr, (gths true t i t).length = Lr := ⟨_, rfl⟩
              rw [hL] at hAj HR0 hrl
              rw [hAj] at hapt hgr
              have HKC := hid (fun (wA w6 : World) (hb : Below wy.heap.size wy wA) (hG : wA.grownBy w6 (Value.slice Aj Lr cj).ownBlock) => show (w6.cell? ⟨gx, 0, none⟩ = some (.int .i64 0) ∧ w6.cell? ⟨gx, 1, none⟩ = some (.slice (some ⟨gx + 1 + 1, 0, none⟩) 1 1) ∧ w6.cell? ⟨gx + 1, 0, none⟩ = some (.int .i64 1) ∧ w6.cell? ⟨gx + 1, 1, none⟩ = some (.slice (some ⟨gx + 1 + 1 + 1, 0, none⟩) 1 1)) ∧ ∀ v, ((w6.setCell ⟨T, t, none⟩ v).cell? ⟨gx, 0, none⟩ = some (.int .i64 0) ∧ (w6.setCell ⟨T, t, none⟩ v).cell? ⟨gx, 1, none⟩ = some (.slice (some ⟨gx + 1 + 1, 0, none⟩) 1 1) ∧ (w6.setCell ⟨T, t, none⟩ v).cell? ⟨gx + 1, 0, none⟩ = some (.int .i64 1) ∧ (w6.setCell ⟨T, t, none⟩ v).cell? ⟨gx + 1, 1, none⟩ = some (.slice (some ⟨gx + 1 + 1 + 1, 0, none⟩) 1 1)) from by
                have hC := Chg.of_grown hG (M := fun k => (Value.slice Aj Lr cj).ownBlock = some k) (fun k e => e)
                have bx := hC.blk (KX.out.below' hb) (fun e => by have := hapt _ e; omega)
                have by_ := hC.blk (KY.out.below' hb) (fun e => by have := hapt _ e; omega)
                obtain ⟨g1, _⟩ := hgr wA w6 hb hG
                refine ⟨⟨bx.cell 0, bx.cell 1, by_.cell 0, by_.cell 1⟩, fun v => ?_⟩
                have fx := bx.far (p := ⟨T, t, none⟩) (bx.ne_ g1 (by decide)) v
                have fy := by_.far (p := ⟨T, t, none⟩) (by_.ne_ g1 (by decide)) v
                exact ⟨fx.cell 0, fx.cell 1, fy.cell 0, fy.cell 1⟩)
              have HKS := hid (fun (w' : World) (hb : Below wy.heap.size wy w') => show w'.cell? ⟨X, 2, none⟩ = some (.slice (some ⟨T, 0, none⟩) n n) ∧ w'.frozen? ⟨T, t, none⟩ = false ∧ w'.cell? ⟨gx, 0, none⟩ = some (.int .i64 0) ∧ w'.cell? ⟨gx, 1, none⟩ = some (.slice (some ⟨gx + 1 + 1, 0, none⟩) 1 1) ∧ w'.cell? ⟨gx + 1, 0, none⟩ = some (.int .i64 1) ∧ w'.cell? ⟨gx + 1, 1, none⟩ = some (.slice (some ⟨gx + 1 + 1 + 1, 0, none⟩) 1 1) from ⟨(HY.out.hx.below' hb).cell 2, (HY.out.mn.tb.below' hb).frozen t, (KX.out.below' hb).cell 0, (KX.out.below' hb).cell 1, (KY.out.below' hb).cell 0, (KY.out.below' hb).cell 1⟩)
              obtain ⟨y, hy⟩ : ∃ y, (gths true t i t).zip (av t) ++ [((⟨0, [(t : Int)]⟩ : VCall), (⟨some ⟨gx + 1 + 1, 0, none⟩, 1, 1⟩ : SV)), ((⟨2, []⟩ : VCall), (⟨none, 0, 0⟩ : SV)), ((⟨1, [(t : Int)]⟩ : VCall), (⟨some ⟨gx + 1 + 1 + 1, 0, none⟩, 1, 1⟩ : SV))] = y := ⟨_, rfl⟩
              have HYE := hid hy
              have HYL := hid (show y.length = Lr + 3 by rw [← hy, List.length_append, HR0.len]; rfl)
              have HR := hid HR0
              have HAJ := hid hAj
              have c2x := HR.out.c2; have c3 := HR.out.c3; have f3 := HR.out.f3; have hcj := HR.out.hcj; have hcm := HR.out.hcm
              have p0 : wy.cell? ⟨gx, 0, none⟩ = some (.int .i64 0) := KX.out.cell 0
              have p1 : wy.cell? ⟨gx, 1, none⟩ = some (.slice (some ⟨gx + 1 + 1, 0, none⟩) 1 1) := KX.out.cell 1
              have p2 : wy.cell? ⟨gx + 1, 0, none⟩ = some (.int .i64 1) := KY.out.cell 0
              have p3 : wy.cell? ⟨gx + 1, 1, none⟩ = some (.slice (some ⟨gx + 1 + 1 + 1, 0, none⟩) 1 1) := KY.out.cell 1
              unfold maxLen at hcm
              clear hy HR0 hAj hL hapt hgr
              have ltT := World.block_lt_of_cell? wy _ c3
              have ltX := World.block_lt_of_cell? wy _ c2x
              refine wp_region_held_drew (S := (fun w' => w'.cell? ⟨X, 2, none⟩ = some (.slice (some ⟨T, 0, none⟩) n n) ∧ w'.frozen? ⟨T, t, none⟩ = false ∧ w'.cell? ⟨gx, 0, none⟩ = some (.int .i64 0) ∧ w'.cell? ⟨gx, 1, none⟩ = some (.slice (some ⟨gx + 1 + 1, 0, none⟩) 1 1) ∧ w'.cell? ⟨gx + 1, 0, none⟩ = some (.int .i64 1) ∧ w'.cell? ⟨gx + 1, 1, none⟩ = some (.slice (some ⟨gx + 1 + 1 + 1, 0, none⟩) 1 1))) (by kernel_rfl) ?_ (fun hHeld => ?_)
              · (try dsimp only); (first | assumption | exact ⟨c2x, f3, p0, p1, p2, p3⟩ | exact ⟨HZ.1.1, HZ.1.2, HZ2.1⟩ | exact ⟨(HZ.2.2 _).1, (HZ.2.2 _).2, HZ2.2 _⟩ | (refine HKS.out _ ?_; (repeat (first | exact bnil _ | refine Below.drew ?_ | refine bnew ?_ _)); done))
              refine wpAnyH_take (i := 0) (oi := ⟨some 60, _, _, _, _, _⟩) (v := ?_) rfl (by kernel_rfl) (by kernel_rfl) (by kernel_rfl) (fun _ _ _ h => h) (Or.inl ⟨by rfl, ?_⟩) (by assumption) ?_
              rotate_left
              · intro w hSw; (try dsimp only at hSw); go_simp <;> with_reducible rfl
              try simp only [Act.put, List.setIfInBounds_toArray, List.set_cons_zero, List.set_cons_succ]
              refine wpAnyH_take (i := 1) (oi := ⟨some 61, _, _, _, _, _⟩) (v := ?_) rfl (by kernel_rfl) (by kernel_rfl) (by kernel_rfl) (fun _ _ _ h => h) (Or.inl ⟨by rfl, ?_⟩) (by assumption) ?_
              rotate_left
              · intro w hSw; (try dsimp only at hSw); go_simp <;> with_reducible rfl
              try simp only [Act.put, List.setIfInBounds_toArray, List.set_cons_zero, List.set_cons_succ]
              refine wpAnyH_take (i := 2) (oi := ⟨some 62, _, _, _, _, _⟩) (v := ?_) rfl (by kernel_rfl) (by kernel_rfl) (by kernel_rfl) (fun _ _ _ h => h) (Or.inl ⟨by rfl, ?_⟩) (by assumption) ?_
              rotate_left
              · intro w hSw; (try dsimp only at hSw); go_simp <;> with_reducible rfl
              try simp only [Act.put, List.setIfInBounds_toArray, List.set_cons_zero, List.set_cons_succ]
              refine wpAnyH_take (i := 3) (oi := ⟨some 63, _, _, _, _, _⟩) (v := ?_) rfl (by kernel_rfl) (by kernel_rfl) (by kernel_rfl) (fun _ _ _ h => h) (Or.inl ⟨by rfl, ?_⟩) (by assumption) ?_
              rotate_left
              · intro w hSw; (try dsimp only at hSw); go_simp <;> with_reducible rfl
              try simp only [Act.put, List.setIfInBounds_toArray, List.set_cons_zero, List.set_cons_succ]
              refine wpAnyH_take (i := 4) (oi := ⟨some 64, _, _, _, _, _⟩) (v := ?_) rfl (by kernel_rfl) (by kernel_rfl) (by kernel_rfl) (fun _ _ _ h => h) (Or.inl ⟨by rfl, ?_⟩) (by assumption) ?_
              rotate_left
              · intro w hSw; (try dsimp only at hSw); go_simp <;> with_reducible rfl
              try simp only [Act.put, List.setIfInBounds_toArray, List.set_cons_zero, List.set_cons_succ]
              refine wpAnyH_take (i := 5) (oi := ⟨some 65, _, _, _, _, _⟩) (v := ?_) rfl (by kernel_rfl) (by kernel_rfl) (by kernel_rfl) (fun _ _ _ h => h) (Or.inl ⟨by rfl, ?_⟩) (by assumption) ?_
              rotate_left
              · intro w hSw; (try dsimp only at hSw); go_simp <;> with_reducible rfl
              try simp only [Act.put, List.setIfInBounds_toArray, List.set_cons_zero, List.set_cons_succ]
              refine wpAnyH_take (i := 6) (oi := ⟨some 66, _, _, _, _, _⟩) (v := ?_) rfl (by kernel_rfl) (by kernel_rfl) (by kernel_rfl) (fun _ _ _ h => h) (Or.inl ⟨by rfl, ?_⟩) (by assumption) ?_
              rotate_left
              · intro w hSw; (try dsimp only at hSw); go_simp <;> with_reducible rfl
              try simp only [Act.put, List.setIfInBounds_toArray, List.set_cons_zero, List.set_cons_succ]
              refine wpAnyH_take (i := 8) (oi := ⟨some 68, _, _, _, _, _⟩) (v := ?_) rfl (by kernel_rfl) (by kernel_rfl) (by kernel_rfl) (fun _ _ _ h => h) (Or.inl ⟨by rfl, ?_⟩) (by assumption) ?_
              rotate_left
              · intro w hSw; (try dsimp only at hSw); go_simp <;> with_reducible rfl
              try simp only [Act.put, List.setIfInBounds_toArray, List.set_cons_zero, List.set_cons_succ]
              refine wpAnyH_take (i := 9) (oi := ⟨some 69, _, _, _, _, _⟩) (v := ?_) rfl (by kernel_rfl) (by kernel_rfl) (by kernel_rfl) (fun _ _ _ h => h) (Or.inl ⟨by rfl, ?_⟩) (by assumption) ?_
              rotate_left
              · intro w hSw; (try dsimp only at hSw); go_simp <;> with_reducible rfl
              try simp only [Act.put, List.setIfInBounds_toArray, List.set_cons_zero, List.set_cons_succ]
              refine wpAnyH_take (i := 10) (oi := ⟨some 70, _, _, _, _, _⟩) (v := ?_) rfl (by kernel_rfl) (by kernel_rfl) (by kernel_rfl) (fun _ _ _ h => h) (Or.inl ⟨by rfl, ?_⟩) (by assumption) ?_
              rotate_left
              · intro w hSw; (try dsimp only at hSw); go_simp <;> with_reducible rfl
              try simp only [Act.put, List.setIfInBounds_toArray, List.set_cons_zero, List.set_cons_succ]
              refine wpAnyH_ready (rs := [7, 11]) (by kernel_rfl) (by simp) ?_
              refine AllReadyH.cons (o := ⟨some 67, _, _, _, _, _⟩) rfl (fun K hK => ?_) ?_
              go_simp
              refine hK.out _ _ ?_ (fun hHeld => ?_)
              · (try dsimp only); (first | assumption | exact ⟨c2x, f3, p0, p1, p2, p3⟩ | exact ⟨HZ.1.1, HZ.1.2, HZ2.1⟩ | exact ⟨(HZ.2.2 _).1, (HZ.2.2 _).2, HZ2.2 _⟩ | (refine HKS.out _ ?_; (repeat (first | exact bnil _ | refine Below.drew ?_ | refine bnew ?_ _)); done))
              clear hK K
              try simp only [Act.put, List.setIfInBounds_toArray, List.set_cons_zero, List.set_cons_succ]
              refine wpAnyH_ready (rs := [11]) (by kernel_rfl) (by simp) ?_
              refine AllReadyH.cons (o := ⟨some 71, _, _, _, _, _⟩) rfl (fun K hK => ?_) AllReadyH.nil
              go_simp
              refine hK.out _ _ ?_ (fun hHeld => ?_)
              · (try dsimp only); (first | assumption | exact ⟨c2x, f3, p0, p1, p2, p3⟩ | exact ⟨HZ.1.1, HZ.1.2, HZ2.1⟩ | exact ⟨(HZ.2.2 _).1, (HZ.2.2 _).2, HZ2.2 _⟩ | (refine HKS.out _ ?_; (repeat (first | exact bnil _ | refine Below.drew ?_ | refine bnew ?_ _)); done))
              clear hK K
              try simp only [Act.put, List.setIfInBounds_toArray, List.set_cons_zero, List.set_cons_succ]
              refine wpAnyH_ready (rs := [12]) (by kernel_rfl) (by simp) ?_
              refine AllReadyH.cons (o := ⟨some 72, _, _, _, _, _⟩) rfl (fun K hK => ?_) AllReadyH.nil
              (refine step_appC elmCN gS_one rfl (.tmp 67) (.tmp 71) rfl (.slice Aj Lr cj) ((gths true t i t).zip (av t)) rfl (HR.out.row _ (bnew (bnil _) _).drew) [((⟨0, [(t : Int)]⟩ : VCall), (⟨some ⟨gx + 1 + 1, 0, none⟩, 1, 1⟩ : SV)), ((⟨2, []⟩ : VCall), (⟨none, 0, 0⟩ : SV)), ((⟨1, [(t : Int)]⟩ : VCall), (⟨some ⟨gx + 1 + 1 + 1, 0, none⟩, 1, 1⟩ : SV))] y HYE rfl (Sl.drew (Sl.fresh' _ #[_, _, _, _, _, _] 49 2 3 _ (by simp) rfl)) rfl (by rw [HYL.out]; simp only [maxLen]; omega) (by rw [HYL.out]; omega) (Nat.le_trans HR.out.size (bnew (bnil _) _).drew.size) ?_; intro E6 c6 w6 hc6 hc7 HN6 HG6 HO6; have HZ := HR.out.grow _ w6 (bnew (bnil _) _).drew HG6.out; have HZ2 := HKC.out _ w6 (bnew (bnil _) _).drew HG6.out)
              refine hK.out _ _ ?_ (fun hHeld => ?_)
              · (try dsimp only); (first | assumption | exact ⟨c2x, f3, p0, p1, p2, p3⟩ | exact ⟨HZ.1.1, HZ.1.2, HZ2.1⟩ | exact ⟨(HZ.2.2 _).1, (HZ.2.2 _).2, HZ2.2 _⟩ | (refine HKS.out _ ?_; (repeat (first | exact bnil _ | refine Below.drew ?_ | refine bnew ?_ _)); done))
              clear hK K
              try simp only [Act.put, List.setIfInBounds_toArray, List.set_cons_zero, List.set_cons_succ]
              refine wpAnyH_take (i := 13) (oi := ⟨some 73, _, _, _, _, _⟩) (v := ?_) rfl (by kernel_rfl) (by kernel_rfl) (by kernel_rfl) (fun _ _ _ h => h) (Or.inl ⟨by rfl, ?_⟩) (by assumption) ?_
              rotate_left
              · intro w hSw; (try dsimp only at hSw); go_simp <;> with_reducible rfl
              try simp only [Act.put, List.setIfInBounds_toArray, List.set_cons_zero, List.set_cons_succ]
              refine wpAnyH_ready (rs := [14]) (by kernel_rfl) (by simp) ?_
              refine AllReadyH.cons (o := ⟨none, _, _, _, _, _⟩) rfl (fun K hK => ?_) AllReadyH.nil
              go_simp
              refine hK.out _ _ ?_ (fun hHeld => ?_)
              · (try dsimp only); (first | assumption | exact ⟨c2x, f3, p0, p1, p2, p3⟩ | exact ⟨HZ.1.1, HZ.1.2, HZ2.1⟩ | exact ⟨(HZ.2.2 _).1, (HZ.2.2 _).2, HZ2.2 _⟩ | (refine HKS.out _ ?_; (repeat (first | exact bnil _ | refine Below.drew ?_ | refine bnew ?_ _)); done))
              clear hK K
              try dsimp only [Act.put]
              refine wpAnyH_done (by kernel_rfl) ?_ _
              rotate_left
              refine AllReadyH.cons (o := ⟨some 71, _, _, _, _, _⟩) rfl (fun K hK => ?_) AllReadyH.nil
              go_simp
              refine hK.out _ _ ?_ (fun hHeld => ?_)
              · (try dsimp only); (first | assumption | exact ⟨c2x, f3, p0, p1, p2, p3⟩ | exact ⟨HZ.1.1, HZ.1.2, HZ2.1⟩ | exact ⟨(HZ.2.2 _).1, (HZ.2.2 _).2, HZ2.2 _⟩ | (refine HKS.out _ ?_; (repeat (first | exact bnil _ | refine Below.drew ?_ | refine bnew ?_ _)); done))
              clear hK K
              try simp only [Act.put, List.setIfInBounds_toArray, List.set_cons_zero, List.set_cons_succ]
              refine wpAnyH_ready (rs := [7]) (by kernel_rfl) (by simp) ?_
              refine AllReadyH.cons (o := ⟨some 67, _, _, _, _, _⟩) rfl (fun K hK => ?_) AllReadyH.nil
              go_simp
              refine hK.out _ _ ?_ (fun hHeld => ?_)
              · (try dsimp only); (first | assumption | exact ⟨c2x, f3, p0, p1, p2, p3⟩ | exact ⟨HZ.1.1, HZ.1.2, HZ2.1⟩ | exact ⟨(HZ.2.2 _).1, (HZ.2.2 _).2, HZ2.2 _⟩ | (refine HKS.out _ ?_; (repeat (first | exact bnil _ | refine Below.drew ?_ | refine bnew ?_ _)); done))
              clear hK K
              try simp only [Act.put, List.setIfInBounds_toArray, List.set_cons_zero, List.set_cons_succ]
              refine wpAnyH_ready (rs := [12]) (by kernel_rfl) (by simp) ?_
              refine AllReadyH.cons (o := ⟨some 72, _, _, _, _, _⟩) rfl (fun K hK => ?_) AllReadyH.nil
              (refine step_appC elmCN gS_one rfl (.tmp 67) (.tmp 71) rfl (.slice Aj Lr cj) ((gths true t i t).zip (av t)) rfl (HR.out.row _ (bnew (bnil _) _).drew) [((⟨0, [(t : Int)]⟩ : VCall), (⟨some ⟨gx + 1 + 1, 0, none⟩, 1, 1⟩ : SV)), ((⟨2, []⟩ : VCall), (⟨none, 0, 0⟩ : SV)), ((⟨1, [(t : Int)]⟩ : VCall), (⟨some ⟨gx + 1 + 1 + 1, 0, none⟩, 1, 1⟩ : SV))] y HYE rfl (Sl.drew (Sl.fresh' _ #[_, _, _, _, _, _] 49 2 3 _ (by simp) rfl)) rfl (by rw [HYL.out]; simp only [maxLen]; omega) (by rw [HYL.out]; omega) (Nat.le_trans HR.out.size (bnew (bnil _) _).drew.size) ?_; intro E6 c6 w6 hc6 hc7 HN6 HG6 HO6; have HZ := HR.out.grow _ w6 (bnew (bnil _) _).drew HG6.out; have HZ2 := HKC.out _ w6 (bnew (bnil _) _).drew HG6.out)
              refine hK.out _ _ ?_ (fun hHeld => ?_)
              · (try dsimp only); (first | assumption | exact ⟨c2x, f3, p0, p1, p2, p3⟩ | exact ⟨HZ.1.1, HZ.1.2, HZ2.1⟩ | exact ⟨(HZ.2.2 _).1, (HZ.2.2 _).2, HZ2.2 _⟩ | (refine HKS.out _ ?_; (repeat (first | exact bnil _ | refine Below.drew ?_ | refine bnew ?_ _)); done))
              clear hK K
              try simp only [Act.put, List.setIfInBounds_toArray, List.set_cons_zero, List.set_cons_succ]
              refine wpAnyH_take (i := 13) (oi := ⟨some 73, _, _, _, _, _⟩) (v := ?_) rfl (by kernel_rfl) (by kernel_rfl) (by kernel_rfl) (fun _ _ _ h => h) (Or.inl ⟨by rfl, ?_⟩) (by assumption) ?_
              rotate_left
              · intro w hSw; (try dsimp only at hSw); go_simp <;> with_reducible rfl
              try simp only [Act.put, List.setIfInBounds_toArray, List.set_cons_zero, List.set_cons_succ]
              refine wpAnyH_ready (rs := [14]) (by kernel_rfl) (by simp) ?_
              refine AllReadyH.cons (o := ⟨none, _, _, _, _, _⟩) rfl (fun K hK => ?_) AllReadyH.nil
              go_simp
              refine hK.out _ _ ?_ (fun hHeld => ?_)
              · (try dsimp only); (first | assumption | exact ⟨c2x, f3, p0, p1, p2, p3⟩ | exact ⟨HZ.1.1, HZ.1.2, HZ2.1⟩ | exact ⟨(HZ.2.2 _).1, (HZ.2.2 _).2, HZ2.2 _⟩ | (refine HKS.out _ ?_; (repeat (first | exact bnil _ | refine Below.drew ?_ | refine bnew ?_ _)); done))
              clear hK K
              try dsimp only [Act.put]
              refine wpAnyH_done (by kernel_rfl) ?_ _
              rotate_left
              all_goals
                have HF := hid (HY.out.app hk4 (ground true t) [(⟨some ⟨gx + 1 + 1, 0, none⟩, 1, 1⟩ : SV), (⟨none, 0, 0⟩ : SV), (⟨some ⟨gx + 1 + 1 + 1, 0, none⟩, 1, 1⟩ : SV)] (bnew (bnil _) _).drew rfl (HOF.out _ (bnew (bnil _) _).drew) HYE.out (by rw [HAJ.out]; exact HG6.out) (by rw [HAJ.out]; exact HO6.out) HN6.out)
                rw [gths_upd] at HF
                clear HZ HZ2 HG6 HO6 HN6
                go_wp2_with fail
                go_roundw
                case rel => exact ⟨i + 1, _, _, by omega, by go_num, HF⟩
                case measure => simp [intOf]; omega
            | false =>
              go_upto_region 15 with fail
              have KX := hid (show Blk ((wr.alloc (.cells #[.int .i64 0, .slice none 0 0] 49)).alloc (.cells #[.int .i64 1, .slice none 0 0] 49)) wr.heap.size 49 #[.int .i64 0, .slice none 0 0] from (Blk.new wr _ _).alloc _)
              have KY := hid (show Blk ((wr.alloc (.cells #[.int .i64 0, .slice none 0 0] 49)).alloc (.cells #[.int .i64 1, .slice none 0 0] 49)) (wr.heap.size + 1) 49 #[.int .i64 1, .slice none 0 0] from blkM (wr.alloc (.cells #[.int .i64 0, .slice none 0 0] 49)) _ _ _ (by simp))
              have BY := hid (show Below wr.heap.size wr ((wr.alloc (.cells #[.int .i64 0, .slice none 0 0] 49)).alloc (.cells #[.int .i64 1, .slice none 0 0] 49)) from bnew (bnew (bnil wr) _) _)
              generalize ((wr.alloc (.cells #[.int .i64 0, .slice none 0 0] 49)).alloc (.cells #[.int .i64 1, .slice none 0 0] 49)) = wy at *
              have hge : W0.heap.size ≤ wr.heap.size := HX.out.below.size
              obtain ⟨gx, hgx⟩ : ∃ gx, wr.heap.size = gx := ⟨_, rfl⟩
              rw [hgx] at KX KY hge
              have HY := hid (HX.out.step BY.out)
              try rw [hgx]
              have HOF := hid (fun (w' : World) (hb : Below wy.heap.size wy w') => show ∀ (k' : Nat) (c : VCall) (a : SV), (ground false t)[k']? = some c → ([(⟨none, 0, 0⟩ : SV), (⟨none, 0, 0⟩ : SV), (⟨none, 0, 0⟩ : SV)] : List SV)[k']? = some a → w'.ownsRow W0.heap.size 3 1 a.v c.args.length (c.args.flatMap gI) from by
                intro k' c a hc ha
                match k', hc, ha with
                | 0, hc, ha => injection hc with hc; injection ha with ha; subst hc ha; exact own0 _ _ _ _
                | 1, hc, ha => injection hc with hc; injection ha with ha; subst hc ha; exact own0 _ _ _ _
                | 2, hc, ha => injection hc with hc; injection ha with ha; subst hc ha; exact own0 _ _ _ _
                | k + 3, hc, ha => cases ha)
              have hrl : (gths false t i t).length ≤ 15 := by unfold gths; rw [if_neg (Nat.lt_irrefl _), if_pos rfl, gcalls_len]; omega
              obtain ⟨Aj, cj, hAj, HR0⟩ := HY.out.row hk4
              have hapt : ∀ b, (tv t).ownBlock = some b → b < gx := fun b hb => by have := (own_ge (HX.out.mn.rows t hk4).2.1 b hb).2; omega
              have hgr := fun (wA w6 : World) (hb : Below wy.heap.size wy wA) (hG : wA.grownBy w6 (tv t).ownBlock) => HY.out.mn.grown hk4 hb hG
              obtain ⟨Lr, hL⟩ : ∃ Lr, (gths false t i t).length = Lr := ⟨_, rfl⟩
              rw [hL] at hAj HR0 hrl
              rw [hAj] at hapt hgr
              have HKC := hid (fun (wA w6 : World) (hb : Below wy.heap.size wy wA) (hG : wA.grownBy w6 (Value.slice Aj Lr cj).ownBlock) => show (w6.cell? ⟨gx, 0, none⟩ = some (.int .i64 0) ∧ w6.cell? ⟨gx, 1, none⟩ = some (.slice none 0 0) ∧ w6.cell? ⟨gx + 1, 0, none⟩ = some (.int .i64 1) ∧ w6.cell? ⟨gx + 1, 1, none⟩ = some (.slice none 0 0)) ∧ ∀ v, ((w6.setCell ⟨T, t, none⟩ v).cell? ⟨gx, 0, none⟩ = some (.int .i64 0) ∧ (w6.setCell ⟨T, t, none⟩ v).cell? ⟨gx, 1, none⟩ = some (.slice none 0 0) ∧ (w6.setCell ⟨T, t, none⟩ v).cell? ⟨gx + 1, 0, none⟩ = some (.int .i64 1) ∧ (w6.setCell ⟨T, t, none⟩ v).cell? ⟨gx + 1, 1, none⟩ = some (.slice none 0 0)) from by
                have hC := Chg.of_grown hG (M := fun k => (Value.slice Aj Lr cj).ownBlock = some k) (fun k e => e)
                have bx := hC.blk (KX.out.below' hb) (fun e => by have := hapt _ e; omega)
                have by_ := hC.blk (KY.out.below' hb) (fun e => by have := hapt _ e; omega)
                obtain ⟨g1, _⟩ := hgr wA w6 hb hG
                refine ⟨⟨bx.cell 0, bx.cell 1, by_.cell 0, by_.cell 1⟩, fun v => ?_⟩
                have fx := bx.far (p := ⟨T, t, none⟩) (bx.ne_ g1 (by decide)) v
                have fy := by_.far (p := ⟨T, t, none⟩) (by_.ne_ g1 (by decide)) v
                exact ⟨fx.cell 0, fx.cell 1, fy.cell 0, fy.cell 1⟩)
              have HKS := hid (fun (w' : World) (hb : Below wy.heap.size wy w') => show w'.cell? ⟨X, 2, none⟩ = some (.slice (some ⟨T, 0, none⟩) n n) ∧ w'.frozen? ⟨T, t, none⟩ = false ∧ w'.cell? ⟨gx, 0, none⟩ = some (.int .i64 0) ∧ w'.cell? ⟨gx, 1, none⟩ = some (.slice none 0 0) ∧ w'.cell? ⟨gx + 1, 0, none⟩ = some (.int .i64 1) ∧ w'.cell? ⟨gx + 1, 1, none⟩ = some (.slice none 0 0) from ⟨(HY.out.hx.below' hb).cell 2, (HY.out.mn.tb.below' hb).frozen t, (KX.out.below' hb).cell 0, (KX.out.below' hb).cell 1, (KY.out.below' hb).cell 0, (KY.out.below' hb).cell 1⟩)
              obtain ⟨y, hy⟩ : ∃ y, (gths false t i t).zip (av t) ++ [((⟨0, []⟩ : VCall), (⟨none, 0, 0⟩ : SV)), ((⟨2, []⟩ : VCall), (⟨none, 0, 0⟩ : SV)), ((⟨1, []⟩ : VCall), (⟨none, 0, 0⟩ : SV))] = y := ⟨_, rfl⟩
              have HYE := hid hy
              have HYL := hid (show y.length = Lr + 3 by rw [← hy, List.length_append, HR0.len]; rfl)
              have HR := hid HR0
              have HAJ := hid hAj
              have c2x := HR.out.c2; have c3 := HR.out.c3; have f3 := HR.out.f3; have hcj := HR.out.hcj; have hcm := HR.out.hcm
              have p0 : wy.cell? ⟨gx, 0, none⟩ = some (.int .i64 0) := KX.out.cell 0
              have p1 : wy.cell? ⟨gx, 1, none⟩ = some (.slice none 0 0) := KX.out.cell 1
              have p2 : wy.cell? ⟨gx + 1, 0, none⟩ = some (.int .i64 1) := KY.out.cell 0
              have p3 : wy.cell? ⟨gx + 1, 1, none⟩ = some (.slice none 0 0) := KY.out.cell 1
              unfold maxLen at hcm
              clear hy HR0 hAj hL hapt hgr
              have ltT := World.block_lt_of_cell? wy _ c3
              have ltX := World.block_lt_of_cell? wy _ c2x
              refine wp_region_held_drew (S := (fun w' => w'.cell? ⟨X, 2, none⟩ = some (.slice (some ⟨T, 0, none⟩) n n) ∧ w'.frozen? ⟨T, t, none⟩ = false ∧ w'.cell? ⟨gx, 0, none⟩ = some (.int .i64 0) ∧ w'.cell? ⟨gx, 1, none⟩ = some (.slice none 0 0) ∧ w'.cell? ⟨gx + 1, 0, none⟩ = some (.int .i64 1) ∧ w'.cell? ⟨gx + 1, 1, none⟩ = some (.slice none 0 0))) (by kernel_rfl) ?_ (fun hHeld => ?_)
              · (try dsimp only); (first | assumption | exact ⟨c2x, f3, p0, p1, p2, p3⟩ | exact ⟨HZ.1.1, HZ.1.2, HZ2.1⟩ | exact ⟨(HZ.2.2 _).1, (HZ.2.2 _).2, HZ2.2 _⟩ | (refine HKS.out _ ?_; (repeat (first | exact bnil _ | refine Below.drew ?_ | refine bnew ?_ _)); done))
              refine wpAnyH_take (i := 0) (oi := ⟨some 60, _, _, _, _, _⟩) (v := ?_) rfl (by kernel_rfl) (by kernel_rfl) (by kernel_rfl) (fun _ _ _ h => h) (Or.inl ⟨by rfl, ?_⟩) (by assumption) ?_
              rotate_left
              · intro w hSw; (try dsimp only at hSw); go_simp <;> with_reducible rfl
              try simp only [Act.put, List.setIfInBounds_toArray, List.set_cons_zero, List.set_cons_succ]
              refine wpAnyH_take (i := 1) (oi := ⟨some 61, _, _, _, _, _⟩) (v := ?_) rfl (by kernel_rfl) (by kernel_rfl) (by kernel_rfl) (fun _ _ _ h => h) (Or.inl ⟨by rfl, ?_⟩) (by assumption) ?_
              rotate_left
              · intro w hSw; (try dsimp only at hSw); go_simp <;> with_reducible rfl
              try simp only [Act.put, List.setIfInBounds_toArray, List.set_cons_zero, List.set_cons_succ]
              refine wpAnyH_take (i := 2) (oi := ⟨some 62, _, _, _, _, _⟩) (v := ?_) rfl (by kernel_rfl) (by kernel_rfl) (by kernel_rfl) (fun _ _ _ h => h) (Or.inl ⟨by rfl, ?_⟩) (by assumption) ?_
              rotate_left
              · intro w hSw; (try dsimp only at hSw); go_simp <;> with_reducible rfl
              try simp only [Act.put, List.setIfInBounds_toArray, List.set_cons_zero, List.set_cons_succ]
              refine wpAnyH_take (i := 3) (oi := ⟨some 63, _, _, _, _, _⟩) (v := ?_) rfl (by kernel_rfl) (by kernel_rfl) (by kernel_rfl) (fun _ _ _ h => h) (Or.inl ⟨by rfl, ?_⟩) (by assumption) ?_
              rotate_left
              · intro w hSw; (try dsimp only at hSw); go_simp <;> with_reducible rfl
              try simp only [Act.put, List.setIfInBounds_toArray, List.set_cons_zero, List.set_cons_succ]
              refine wpAnyH_take (i := 4) (oi := ⟨some 64, _, _, _, _, _⟩) (v := ?_) rfl (by kernel_rfl) (by kernel_rfl) (by kernel_rfl) (fun _ _ _ h => h) (Or.inl ⟨by rfl, ?_⟩) (by assumption) ?_
              rotate_left
              · intro w hSw; (try dsimp only at hSw); go_simp <;> with_reducible rfl
              try simp only [Act.put, List.setIfInBounds_toArray, List.set_cons_zero, List.set_cons_succ]
              refine wpAnyH_take (i := 5) (oi := ⟨some 65, _, _, _, _, _⟩) (v := ?_) rfl (by kernel_rfl) (by kernel_rfl) (by kernel_rfl) (fun _ _ _ h => h) (Or.inl ⟨by rfl, ?_⟩) (by assumption) ?_
              rotate_left
              · intro w hSw; (try dsimp only at hSw); go_simp <;> with_reducible rfl
              try simp only [Act.put, List.setIfInBounds_toArray, List.set_cons_zero, List.set_cons_succ]
              refine wpAnyH_take (i := 6) (oi := ⟨some 66, _, _, _, _, _⟩) (v := ?_) rfl (by kernel_rfl) (by kernel_rfl) (by kernel_rfl) (fun _ _ _ h => h) (Or.inl ⟨by rfl, ?_⟩) (by assumption) ?_
              rotate_left
              · intro w hSw; (try dsimp only at hSw); go_simp <;> with_reducible rfl
              try simp only [Act.put, List.setIfInBounds_toArray, List.set_cons_zero, List.set_cons_succ]
              refine wpAnyH_take (i := 8) (oi := ⟨some 68, _, _, _, _, _⟩) (v := ?_) rfl (by kernel_rfl) (by kernel_rfl) (by kernel_rfl) (fun _ _ _ h => h) (Or.inl ⟨by rfl, ?_⟩) (by assumption) ?_
              rotate_left
              · intro w hSw; (try dsimp only at hSw); go_simp <;> with_reducible rfl
              try simp only [Act.put, List.setIfInBounds_toArray, List.set_cons_zero, List.set_cons_succ]
              refine wpAnyH_take (i := 9) (oi := ⟨some 69, _, _, _, _, _⟩) (v := ?_) rfl (by kernel_rfl) (by kernel_rfl) (by kernel_rfl) (fun _ _ _ h => h) (Or.inl ⟨by rfl, ?_⟩) (by assumption) ?_
              rotate_left
              · intro w hSw; (try dsimp only at hSw); go_simp <;> with_reducible rfl
              try simp only [Act.put, List.setIfInBounds_toArray, List.set_cons_zero, List.set_cons_succ]
              refine wpAnyH_take (i := 10) (oi := ⟨some 70, _, _, _, _, _⟩) (v := ?_) rfl (by kernel_rfl) (by kernel_rfl) (by kernel_rfl) (fun _ _ _ h => h) (Or.inl ⟨by rfl, ?_⟩) (by assumption) ?_
              rotate_left
              · intro w hSw; (try dsimp only at hSw); go_simp <;> with_reducible rfl
              try simp only [Act.put, List.setIfInBounds_toArray, List.set_cons_zero, List.set_cons_succ]
              refine wpAnyH_ready (rs := [7, 11]) (by kernel_rfl) (by simp) ?_
              refine AllReadyH.cons (o := ⟨some 67, _, _, _, _, _⟩) rfl (fun K hK => ?_) ?_
              go_simp
              refine hK.out _ _ ?_ (fun hHeld => ?_)
              · (try dsimp only); (first | assumption | exact ⟨c2x, f3, p0, p1, p2, p3⟩ | exact ⟨HZ.1.1, HZ.1.2, HZ2.1⟩ | exact ⟨(HZ.2.2 _).1, (HZ.2.2 _).2, HZ2.2 _⟩ | (refine HKS.out _ ?_; (repeat (first | exact bnil _ | refine Below.drew ?_ | refine bnew ?_ _)); done))
              clear hK K
              try simp only [Act.put, List.setIfInBounds_toArray, List.set_cons_zero, List.set_cons_succ]
              refine wpAnyH_ready (rs := [11]) (by kernel_rfl) (by simp) ?_
              refine AllReadyH.cons (o := ⟨some 71, _, _, _, _, _⟩) rfl (fun K hK => ?_) AllReadyH.nil
              go_simp
              refine hK.out _ _ ?_ (fun hHeld => ?_)
              · (try dsimp only); (first | assumption | exact ⟨c2x, f3, p0, p1, p2, p3⟩ | exact ⟨HZ.1.1, HZ.1.2, HZ2.1⟩ | exact ⟨(HZ.2.2 _).1, (HZ.2.2 _).2, HZ2.2 _⟩ | (refine HKS.out _ ?_; (repeat (first | exact bnil _ | refine Below.drew ?_ | refine bnew ?_ _)); done))
              clear hK K
              try simp only [Act.put, List.setIfInBounds_toArray, List.set_cons_zero, List.set_cons_succ]
              refine wpAnyH_ready (rs := [12]) (by kernel_rfl) (by simp) ?_
              refine AllReadyH.cons (o := ⟨some 72, _, _, _, _, _⟩) rfl (fun K hK => ?_) AllReadyH.nil
              (refine step_appC elmCN gS_one rfl (.tmp 67) (.tmp 71) rfl (.slice Aj Lr cj) ((gths false t i t).zip (av t)) rfl (HR.out.row _ (bnew (bnil _) _).drew) [((⟨0, []⟩ : VCall), (⟨none, 0, 0⟩ : SV)), ((⟨2, []⟩ : VCall), (⟨none, 0, 0⟩ : SV)), ((⟨1, []⟩ : VCall), (⟨none, 0, 0⟩ : SV))] y HYE rfl (Sl.drew (Sl.fresh' _ #[_, _, _, _, _, _] 49 2 3 _ (by simp) rfl)) rfl (by rw [HYL.out]; simp only [maxLen]; omega) (by rw [HYL.out]; omega) (Nat.le_trans HR.out.size (bnew (bnil _) _).drew.size) ?_; intro E6 c6 w6 hc6 hc7 HN6 HG6 HO6; have HZ := HR.out.grow _ w6 (bnew (bnil _) _).drew HG6.out; have HZ2 := HKC.out _ w6 (bnew (bnil _) _).drew HG6.out)
              refine hK.out _ _ ?_ (fun hHeld => ?_)
              · (try dsimp only); (first | assumption | exact ⟨c2x, f3, p0, p1, p2, p3⟩ | exact ⟨HZ.1.1, HZ.1.2, HZ2.1⟩ | exact ⟨(HZ.2.2 _).1, (HZ.2.2 _).2, HZ2.2 _⟩ | (refine HKS.out _ ?_; (repeat (first | exact bnil _ | refine Below.drew ?_ | refine bnew ?_ _)); done))
              clear hK K
              try simp only [Act.put, List.setIfInBounds_toArray, List.set_cons_zero, List.set_cons_succ]
              refine wpAnyH_take (i := 13) (oi := ⟨some 73, _, _, _, _, _⟩) (v := ?_) rfl (by kernel_rfl) (by kernel_rfl) (by kernel_rfl) (fun _ _ _ h => h) (Or.inl ⟨by rfl, ?_⟩) (by assumption) ?_
              rotate_left
              · intro w hSw; (try dsimp only at hSw); go_simp <;> with_reducible rfl
              try simp only [Act.put, List.setIfInBounds_toArray, List.set_cons_zero, List.set_cons_succ]
              refine wpAnyH_ready (rs := [14]) (by kernel_rfl) (by simp) ?_
              refine AllReadyH.cons (o := ⟨none, _, _, _, _, _⟩) rfl (fun K hK => ?_) AllReadyH.nil
              go_simp
              refine hK.out _ _ ?_ (fun hHeld => ?_)
              · (try dsimp only); (first | assumption | exact ⟨c2x, f3, p0, p1, p2, p3⟩ | exact ⟨HZ.1.1, HZ.1.2, HZ2.1⟩ | exact ⟨(HZ.2.2 _).1, (HZ.2.2 _).2, HZ2.2 _⟩ | (refine HKS.out _ ?_; (repeat (first | exact bnil _ | refine Below.drew ?_ | refine bnew ?_ _)); done))
              clear hK K
              try dsimp only [Act.put]
              refine wpAnyH_done (by kernel_rfl) ?_ _
              rotate_left
              refine AllReadyH.cons (o := ⟨some 71, _, _, _, _, _⟩) rfl (fun K hK => ?_) AllReadyH.nil
              go_simp
              refine hK.out _ _ ?_ (fun hHeld => ?_)
              · (try dsimp only); (first | assumption | exact ⟨c2x, f3, p0, p1, p2, p3⟩ | exact ⟨HZ.1.1, HZ.1.2, HZ2.1⟩ | exact ⟨(HZ.2.2 _).1, (HZ.2.2 _).2, HZ2.2 _⟩ | (refine HKS.out _ ?_; (repeat (first | exact bnil _ | refine Below.drew ?_ | refine bnew ?_ _)); done))
              clear hK K
              try simp only [Act.put, List.setIfInBounds_toArray, List.set_cons_zero, List.set_cons_succ]
              refine wpAnyH_ready (rs := [7]) (by kernel_rfl) (by simp) ?_
              refine AllReadyH.cons (o := ⟨some 67, _, _, _, _, _⟩) rfl (fun K hK => ?_) AllReadyH.nil
              go_simp
              refine hK.out _ _ ?_ (fun hHeld => ?_)
              · (try dsimp only); (first | assumption | exact ⟨c2x, f3, p0, p1, p2, p3⟩ | exact ⟨HZ.1.1, HZ.1.2, HZ2.1⟩ | exact ⟨(HZ.2.2 _).1, (HZ.2.2 _).2, HZ2.2 _⟩ | (refine HKS.out _ ?_; (repeat (first | exact bnil _ | refine Below.drew ?_ | refine bnew ?_ _)); done))
              clear hK K
              try simp only [Act.put, List.setIfInBounds_toArray, List.set_cons_zero, List.set_cons_succ]
              refine wpAnyH_ready (rs := [12]) (by kernel_rfl) (by simp) ?_
              refine AllReadyH.cons (o := ⟨some 72, _, _, _, _, _⟩) rfl (fun K hK => ?_) AllReadyH.nil
              (refine step_appC elmCN gS_one rfl (.tmp 67) (.tmp 71) rfl (.slice Aj Lr cj) ((gths false t i t).zip (av t)) rfl (HR.out.row _ (bnew (bnil _) _).drew) [((⟨0, []⟩ : VCall), (⟨none, 0, 0⟩ : SV)), ((⟨2, []⟩ : VCall), (⟨none, 0, 0⟩ : SV)), ((⟨1, []⟩ : VCall), (⟨none, 0, 0⟩ : SV))] y HYE rfl (Sl.drew (Sl.fresh' _ #[_, _, _, _, _, _] 49 2 3 _ (by simp) rfl)) rfl (by rw [HYL.out]; simp only [maxLen]; omega) (by rw [HYL.out]; omega) (Nat.le_trans HR.out.size (bnew (bnil _) _).drew.size) ?_; intro E6 c6 w6 hc6 hc7 HN6 HG6 HO6; have HZ := HR.out.grow _ w6 (bnew (bnil _) _).drew HG6.out; have HZ2 := HKC.out _ w6 (bnew (bnil _) _).drew HG6.out)
              refine hK.out _ _ ?_ (fun hHeld => ?_)
              · (try dsimp only); (first | assumption | exact ⟨c2x, f3, p0, p1, p2, p3⟩ | exact ⟨HZ.1.1, HZ.1.2, HZ2.1⟩ | exact ⟨(HZ.2.2 _).1, (HZ.2.2 _).2, HZ2.2 _⟩ | (refine HKS.out _ ?_; (repeat (first | exact bnil _ | refine Below.drew ?_ | refine bnew ?_ _)); done))
              clear hK K
              try simp only [Act.put, List.setIfInBounds_toArray, List.set_cons_zero, List.set_cons_succ]
              refine wpAnyH_take (i := 13) (oi := ⟨some 73, _, _, _, _, _⟩) (v := ?_) rfl (by kernel_rfl) (by kernel_rfl) (by kernel_rfl) (fun _ _ _ h => h) (Or.inl ⟨by rfl, ?_⟩) (by assumption) ?_
              rotate_left
              · intro w hSw; (try dsimp only at hSw); go_simp <;> with_reducible rfl
              try simp only [Act.put, List.setIfInBounds_toArray, List.set_cons_zero, List.set_cons_succ]
              refine wpAnyH_ready (rs := [14]) (by kernel_rfl) (by simp) ?_
              refine AllReadyH.cons (o := ⟨none, _, _, _, _, _⟩) rfl (fun K hK => ?_) AllReadyH.nil
              go_simp
              refine hK.out _ _ ?_ (fun hHeld => ?_)
              · (try dsimp only); (first | assumption | exact ⟨c2x, f3, p0, p1, p2, p3⟩ | exact ⟨HZ.1.1, HZ.1.2, HZ2.1⟩ | exact ⟨(HZ.2.2 _).1, (HZ.2.2 _).2, HZ2.2 _⟩ | (refine HKS.out _ ?_; (repeat (first | exact bnil _ | refine Below.drew ?_ | refine bnew ?_ _)); done))
              clear hK K
              try dsimp only [Act.put]
              refine wpAnyH_done (by kernel_rfl) ?_ _
              rotate_left
              all_goals
                have HF := hid (HY.out.app hk4 (ground false t) [(⟨none, 0, 0⟩ : SV), (⟨none, 0, 0⟩ : SV), (⟨none, 0, 0⟩ : SV)] (bnew (bnil _) _).drew rfl (HOF.out _ (bnew (bnil _) _).drew) HYE.out (by rw [HAJ.out]; exact HG6.out) (by rw [HAJ.out]; exact HO6.out) HN6.out)
                rw [gths_upd] at HF
                clear HZ HZ2 HG6 HO6 HN6
                go_wp2_with fail
                go_roundw
                case rel => exact ⟨i + 1, _, _, by omega, by go_num, HF⟩
                case measure => simp [intOf]; omega
          · obtain rfl : i = 6 := by omega
            have i5 : ¬ ((6 : Nat) : Int) < 6 := by omega
            rw [gths_next] at HX
            go_wp2_with fail
            go_roundw
            case rel => exact ⟨t + 1, _, _, by omega, by go_num, HX⟩
            case measure => simp [intOf]; omega
      · obtain rfl : t = n := by omega
        have i4 : ¬ (t : Int) < (t : Int) := by omega
        obtain ⟨n, hnt⟩ : ∃ n, n = t := ⟨_, rfl⟩
        subst hnt
        obtain ⟨N9, hN9⟩ : ∃ N, (ws ++ [0]).length = N := ⟨_, rfl⟩
        have HMA := hid (gmach_at (ws := ws ++ [0]) HX.out.mn h4 HS1.out HS2.out hnw9)
        have y0 : wr.cell? ⟨X, 0, none⟩ = some (.slice AW2 N9 cW2) := by rw [← hN9]; exact HX.out.hx.cell 0
        have y1 : wr.cell? ⟨X, 1, none⟩ = some (.slice (some ⟨Cb, 0, none⟩) 3 3) := HX.out.hx.cell 1
        have y2 : wr.cell? ⟨X, 2, none⟩ = some (.slice (some ⟨T, 0, none⟩) n n) := HX.out.hx.cell 2
        have z0 := HX.out.hr.frozen 0
        have z1 := HX.out.hr.frozen 1
        have z2 := HX.out.hr.frozen 2
        have z3 : wr.cell? ⟨w.heap.size, 0, none⟩ = some (.slice none 0 0) := HX.out.hr.cell 0
        have z4 : wr.cell? ⟨w.heap.size, 1, none⟩ = some (.slice none 0 0) := HX.out.hr.cell 1
        have z5 : wr.cell? ⟨w.heap.size, 2, none⟩ = some (.slice none 0 0) := HX.out.hr.cell 2
        have HTR := hid (HT.out.below HX.out.below)
        have hXR : X ≠ w.heap.size := fun e => by
          rw [e] at y1
          rw [z4] at y1
          injection y1 with y1; injection y1 with y1; cases y1
        have HNL := hid (show N9 ≤ 10 by rw [← hN9, List.length_append, HWL.out]; simp; omega)
        have HN9 := hid hN9
        clear hN9
        have ig1 : decide ((0 : Int) < (nw : Int)) = true := decide_eq_true (by omega)
        have ig2 : decide ((nw : Int) < 199) = true := decide_eq_true (by omega)
        have ig3 : decide ((0 : Int) < (n1 : Int)) = true := decide_eq_true (by omega)
        have ig4 : decide ((0 : Int) < (n2 : Int)) = true := decide_eq_true (by omega)
        go_upto_region 16 with fail
        refine wp_region_held_drew (S := (fun w' => w'.cell? ⟨X, 0, none⟩ = some (.slice AW2 N9 cW2) ∧ w'.cell? ⟨X, 1, none⟩ = some (.slice (some ⟨Cb, 0, none⟩) 3 3) ∧ w'.cell? ⟨X, 2, none⟩ = some (.slice (some ⟨T, 0, none⟩) n n) ∧ w'.frozen? ⟨w.heap.size, 0, none⟩ = false ∧ w'.frozen? ⟨w.heap.size, 1, none⟩ = false ∧ w'.frozen? ⟨w.heap.size, 2, none⟩ = false)) (by kernel_rfl) ?_ (fun hHeld => ?_)
        · (try dsimp only); (first | assumption | exact ⟨y0, y1, y2, z0, z1, z2⟩ | exact ⟨y0', y1', y2', z0', z1', z2'⟩ | exact keep16s hXR y0' y1' y2' z0' z1' z2' _ _ _)
        refine wpAnyH_take (i := 0) (oi := ⟨some 74, _, _, _, _, _⟩) (v := ?_) rfl (by kernel_rfl) (by kernel_rfl) (by kernel_rfl) (fun _ _ _ h => h) (Or.inl ⟨by rfl, ?_⟩) (by assumption) ?_
        rotate_left
        · intro w hSw; (try dsimp only at hSw); go_simp <;> with_reducible rfl
        try simp only [Act.put, List.setIfInBounds_toArray, List.set_cons_zero, List.set_cons_succ]
        refine wpAnyH_take (i := 1) (oi := ⟨some 75, _, _, _, _, _⟩) (v := ?_) rfl (by kernel_rfl) (by kernel_rfl) (by kernel_rfl) (fun _ _ _ h => h) (Or.inl ⟨by rfl, ?_⟩) (by assumption) ?_
        rotate_left
        · intro w hSw; (try dsimp only at hSw); go_simp <;> with_reducible rfl
        try simp only [Act.put, List.setIfInBounds_toArray, List.set_cons_zero, List.set_cons_succ]
        refine wpAnyH_take (i := 2) (oi := ⟨some 76, _, _, _, _, _⟩) (v := .bool true) rfl (by kernel_rfl) (by kernel_rfl) (by kernel_rfl) (fun _ _ _ h => h) (Or.inl ⟨by rfl, ?_⟩) (by assumption) ?_
        · intro w hSw; (try dsimp only at hSw); go_simp <;> (first | with_reducible rfl | rfl | rw [ig1] | rw [ig2] | rw [ig3] | rw [ig4])
        try simp only [Act.put, List.setIfInBounds_toArray, List.set_cons_zero, List.set_cons_succ]
        refine wpAnyH_take (i := 3) (oi := ⟨some 77, _, _, _, _, _⟩) (v := ?_) rfl (by kernel_rfl) (by kernel_rfl) (by kernel_rfl) (fun _ _ _ h => h) (Or.inl ⟨by rfl, ?_⟩) (by assumption) ?_
        rotate_left
        · intro w hSw; (try dsimp only at hSw); go_simp <;> with_reducible rfl
        try simp only [Act.put, List.setIfInBounds_toArray, List.set_cons_zero, List.set_cons_succ]
        refine wpAnyH_take (i := 4) (oi := ⟨some 78, _, _, _, _, _⟩) (v := ?_) rfl (by kernel_rfl) (by kernel_rfl) (by kernel_rfl) (fun _ _ _ h => h) (Or.inl ⟨by rfl, ?_⟩) (by assumption) ?_
        rotate_left
        · intro w hSw; (try dsimp only at hSw); go_simp <;> with_reducible rfl
        try simp only [Act.put, List.setIfInBounds_toArray, List.set_cons_zero, List.set_cons_succ]
        refine wpAnyH_take (i := 5) (oi := ⟨some 79, _, _, _, _, _⟩) (v := .bool true) rfl (by kernel_rfl) (by kernel_rfl) (by kernel_rfl) (fun _ _ _ h => h) (Or.inl ⟨by rfl, ?_⟩) (by assumption) ?_
        · intro w hSw; (try dsimp only at hSw); go_simp <;> (first | with_reducible rfl | rfl | rw [ig1] | rw [ig2] | rw [ig3] | rw [ig4])
        try simp only [Act.put, List.setIfInBounds_toArray, List.set_cons_zero, List.set_cons_succ]
        refine wpAnyH_take (i := 6) (oi := ⟨some 80, _, _, _, _, _⟩) (v := ?_) rfl (by kernel_rfl) (by kernel_rfl) (by kernel_rfl) (fun _ _ _ h => h) (Or.inl ⟨by rfl, ?_⟩) (by assumption) ?_
        rotate_left
        · intro w hSw; (try dsimp only at hSw); go_simp <;> with_reducible rfl
        try simp only [Act.put, List.setIfInBounds_toArray, List.set_cons_zero, List.set_cons_succ]
        refine wpAnyH_take (i := 7) (oi := ⟨some 81, _, _, _, _, _⟩) (v := ?_) rfl (by kernel_rfl) (by kernel_rfl) (by kernel_rfl) (fun _ _ _ h => h) (Or.inl ⟨by rfl, ?_⟩) (by assumption) ?_
        rotate_left
        · intro w hSw; (try dsimp only at hSw); go_simp <;> with_reducible rfl
        try simp only [Act.put, List.setIfInBounds_toArray, List.set_cons_zero, List.set_cons_succ]
        refine wpAnyH_take (i := 8) (oi := ⟨some 82, _, _, _, _, _⟩) (v := ?_) rfl (by kernel_rfl) (by kernel_rfl) (by kernel_rfl) (fun _ _ _ h => h) (Or.inl ⟨by rfl, ?_⟩) (by assumption) ?_
        rotate_left
        · intro w hSw; (try dsimp only at hSw); go_simp <;> with_reducible rfl
        try simp only [Act.put, List.setIfInBounds_toArray, List.set_cons_zero, List.set_cons_succ]
        refine wpAnyH_take (i := 9) (oi := ⟨some 83, _, _, _, _, _⟩) (v := ?_) rfl (by kernel_rfl) (by kernel_rfl) (by kernel_rfl) (fun _ _ _ h => h) (Or.inl ⟨by rfl, ?_⟩) (by assumption) ?_
        rotate_left
        · intro w hSw; (try dsimp only at hSw); go_simp <;> with_reducible rfl
        try simp only [Act.put, List.setIfInBounds_toArray, List.set_cons_zero, List.set_cons_succ]
        refine wpAnyH_take (i := 10) (oi := ⟨some 84, _, _, _, _, _⟩) (v := .bool true) rfl (by kernel_rfl) (by kernel_rfl) (by kernel_rfl) (fun _ _ _ h => h) (Or.inl ⟨by rfl, ?_⟩) (by assumption) ?_
        · intro w hSw; (try dsimp only at hSw); go_simp <;> (first | with_reducible rfl | rfl | rw [ig1] | rw [ig2] | rw [ig3] | rw [ig4])
        try simp only [Act.put, List.setIfInBounds_toArray, List.set_cons_zero, List.set_cons_succ]
        refine wpAnyH_take (i := 11) (oi := ⟨some 85, _, _, _, _, _⟩) (v := ?_) rfl (by kernel_rfl) (by kernel_rfl) (by kernel_rfl) (fun _ _ _ h => h) (Or.inl ⟨by rfl, ?_⟩) (by assumption) ?_
        rotate_left
        · intro w hSw; (try dsimp only at hSw); go_simp <;> with_reducible rfl
        try simp only [Act.put, List.setIfInBounds_toArray, List.set_cons_zero, List.set_cons_succ]
        refine wpAnyH_take (i := 12) (oi := ⟨some 86, _, _, _, _, _⟩) (v := ?_) rfl (by kernel_rfl) (by kernel_rfl) (by kernel_rfl) (fun _ _ _ h => h) (Or.inl ⟨by rfl, ?_⟩) (by assumption) ?_
        rotate_left
        · intro w hSw; (try dsimp only at hSw); go_simp <;> with_reducible rfl
        try simp only [Act.put, List.setIfInBounds_toArray, List.set_cons_zero, List.set_cons_succ]
        refine wpAnyH_take (i := 13) (oi := ⟨some 87, _, _, _, _, _⟩) (v := ?_) rfl (by kernel_rfl) (by kernel_rfl) (by kernel_rfl) (fun _ _ _ h => h) (Or.inl ⟨by rfl, ?_⟩) (by assumption) ?_
        rotate_left
        · intro w hSw; (try dsimp only at hSw); go_simp <;> with_reducible rfl
        try simp only [Act.put, List.setIfInBounds_toArray, List.set_cons_zero, List.set_cons_succ]
        refine wpAnyH_take (i := 14) (oi := ⟨some 88, _, _, _, _, _⟩) (v := ?_) rfl (by kernel_rfl) (by kernel_rfl) (by kernel_rfl) (fun _ _ _ h => h) (Or.inl ⟨by rfl, ?_⟩) (by assumption) ?_
        rotate_left
        · intro w hSw; (try dsimp only at hSw); go_simp <;> with_reducible rfl
        try simp only [Act.put, List.setIfInBounds_toArray, List.set_cons_zero, List.set_cons_succ]
        refine wpAnyH_take (i := 15) (oi := ⟨some 89, _, _, _, _, _⟩) (v := .bool true) rfl (by kernel_rfl) (by kernel_rfl) (by kernel_rfl) (fun _ _ _ h => h) (Or.inl ⟨by rfl, ?_⟩) (by assumption) ?_
        · intro w hSw; (try dsimp only at hSw); go_simp <;> (first | with_reducible rfl | rfl | rw [ig1] | rw [ig2] | rw [ig3] | rw [ig4])
        try simp only [Act.put, List.setIfInBounds_toArray, List.set_cons_zero, List.set_cons_succ]
        refine wpAnyH_take (i := 16) (oi := ⟨some 90, _, _, _, _, _⟩) (v := ?_) rfl (by kernel_rfl) (by kernel_rfl) (by kernel_rfl) (fun _ _ _ h => h) (Or.inl ⟨by rfl, ?_⟩) (by assumption) ?_
        rotate_left
        · intro w hSw; (try dsimp only at hSw); go_simp <;> with_reducible rfl
        try simp only [Act.put, List.setIfInBounds_toArray, List.set_cons_zero, List.set_cons_succ]
        refine wpAnyH_take (i := 17) (oi := ⟨some 91, _, _, _, _, _⟩) (v := ?_) rfl (by kernel_rfl) (by kernel_rfl) (by kernel_rfl) (fun _ _ _ h => h) (Or.inl ⟨by rfl, ?_⟩) (by assumption) ?_
        rotate_left
        · intro w hSw; (try dsimp only at hSw); go_simp <;> with_reducible rfl
        try simp only [Act.put, List.setIfInBounds_toArray, List.set_cons_zero, List.set_cons_succ]
        refine wpAnyH_take (i := 18) (oi := ⟨some 92, _, _, _, _, _⟩) (v := ?_) rfl (by kernel_rfl) (by kernel_rfl) (by kernel_rfl) (fun _ _ _ h => h) (Or.inl ⟨by rfl, ?_⟩) (by assumption) ?_
        rotate_left
        · intro w hSw; (try dsimp only at hSw); go_simp <;> with_reducible rfl
        try simp only [Act.put, List.setIfInBounds_toArray, List.set_cons_zero, List.set_cons_succ]
        refine wpAnyH_ready (rs := [19]) (by kernel_rfl) (by simp) ?_
        refine AllReadyH.cons (o := ⟨some 93, _, _, _, _, _⟩) rfl (fun K hK => ?_) AllReadyH.nil
        go_simp
        refine (run_may AW2 (some ⟨Cb, 0, none⟩) (some ⟨T, 0, none⟩) N9 cW2 3 3 n n _ _ (by have := HNL.out; omega) (by decide) (by omega) (HTR.out.below (bnil _).drew) (HMA.out.below (bnil _).drew)).mono ?_; rintro e w4 ⟨rfl, b4⟩; have b4 := bgo (bnil wr).drew b4; obtain ⟨y0', y1', y2', z0', z1', z2', z3', z4', z5'⟩ := keep16 b4 y0 y1 y2 z0 z1 z2 z3 z4 z5; clear y0 y1 y2 z0 z1 z2 z3 z4 z5
        go_wp2_with fail
        refine hK.out _ _ ?_ (fun hHeld => ?_)
        · (try dsimp only); (first | assumption | exact ⟨y0, y1, y2, z0, z1, z2⟩ | exact ⟨y0', y1', y2', z0', z1', z2'⟩ | exact keep16s hXR y0' y1' y2' z0' z1' z2' _ _ _)
        clear hK K
        try simp only [Act.put, List.setIfInBounds_toArray, List.set_cons_zero, List.set_cons_succ]
        refine wpAnyH_take (i := 20) (oi := ⟨some 94, _, _, _, _, _⟩) (v := ?_) rfl (by kernel_rfl) (by kernel_rfl) (by kernel_rfl) (fun _ _ _ h => h) (Or.inl ⟨by rfl, ?_⟩) (by assumption) ?_
        rotate_left
        · intro w hSw; (try dsimp only at hSw); go_simp <;> with_reducible rfl
        try simp only [Act.put, List.setIfInBounds_toArray, List.set_cons_zero, List.set_cons_succ]
        refine wpAnyH_ready (rs := [21]) (by kernel_rfl) (by simp) ?_
        refine AllReadyH.cons (o := ⟨none, _, _, _, _, _⟩) rfl (fun K hK => ?_) AllReadyH.nil
        go_simp
        refine hK.out _ _ ?_ (fun hHeld => ?_)
        · (try dsimp only); (first | assumption | exact ⟨y0, y1, y2, z0, z1, z2⟩ | exact ⟨y0', y1', y2', z0', z1', z2'⟩ | exact keep16s hXR y0' y1' y2' z0' z1' z2' _ _ _)
        clear hK K
        try dsimp only [Act.put]
        refine wpAnyH_take (i := 22) (oi := ⟨some 13, _, _, _, _, _⟩) (v := ?_) rfl (by kernel_rfl) (by kernel_rfl) (by kernel_rfl) (fun _ _ _ h => h) (Or.inl ⟨by rfl, ?_⟩) (by assumption) ?_
        rotate_left
        · intro w hSw; (try dsimp only at hSw); go_simp <;> with_reducible rfl
        try simp only [Act.put, List.setIfInBounds_toArray, List.set_cons_zero, List.set_cons_succ]
        refine wpAnyH_done (by kernel_rfl) ?_ _
        rotate_left

        go_wp2
        have HXZ := hid (HX.out.step b4)
        obtain ⟨q0, q1, q2⟩ := set3N HXZ.out.hr (.slice AW2 N9 cW2) (.slice (some ⟨Cb, 0, none⟩) 3 3) (.slice (some ⟨T, 0, none⟩) n n)
        refine bodyPost_ret (v := .tuple #[.agg #[.slice AW2 N9 cW2, .slice (some ⟨Cb, 0, none⟩) 3 3, .slice (some ⟨T, 0, none⟩) n n], .bool true]) (by simp [results, Tryd.results21, go_sem, q0, q1, q2]) rfl ?_
        obtain rfl := HN9.out
        exact ⟨AW2, cW2, Cb, T, _, tv, av, rfl, own_res HXZ.out.own HXZ.out.hr (by decide) _ _ _, HXZ.out.mn.res HXZ.out.hr _ _ _, ((HXZ.out.below.setCell (p := ⟨w.heap.size, 0, none⟩) HB.out.size _).setCell (p := ⟨w.heap.size, 1, none⟩) HB.out.size _).setCell (p := ⟨w.heap.size, 2, none⟩) HB.out.size _⟩
end

section
open Go.RowKit
def oneM : Mach := ⟨[], [[]], [[⟨0, []⟩]]⟩
theorem one_play : (play oneM [0]).evs.length = 2 := by decide +kernel
theorem sl0 (w : World) (sz : Nat) : Sl w sz none 0 [] := ⟨by simp, fun h => absurd h (by decide)⟩
theorem one_at (w : World) (a b c d : Nat) (h0 : Blk w a 28 #[.slice none 0 0]) (h1 : Blk w b 49 #[.int .i64 0, .slice none 0 0]) (h2 : Blk w c 50 #[.slice (some ⟨b, 0, none⟩) 1 1]) (h3 : Blk w d 3 #[.int .i64 0]) :
    MachAt w (some ⟨a, 0, none⟩) 1 (some ⟨c, 0, none⟩) 1 oneM ∧ Sl w 1 none 0 (ints oneM.words) ∧ Sl w 1 (some ⟨d, 0, none⟩) 1 (ints ([0].map fun x : Nat => (x : Int))) := by
  refine ⟨⟨rfl, rfl, ⟨_, rfl, h0.sl 1 1 rfl, ?_⟩, ⟨_, rfl, h2.sl 1 1 rfl, ?_⟩⟩, sl0 _ _, h3.sl 1 1 rfl⟩
  · intro i code hi
    match i, hi with
    | 0, hi =>
      injection hi with hi; subst hi
      exact ⟨_, 0, 0, rfl, by decide, rfl, (fun o ho => by cases ho), sl0 _ _⟩
    | i + 1, hi => simp [oneM] at hi
  · intro j calls hj
    match j, hj with
    | 0, hj =>
      injection hj with hj; subst hj
      refine ⟨_, 1, 1, rfl, rfl, by decide, [.slice none 0 0], rfl, h1.sl 2 1 rfl, ?_⟩
      intro k x v hk hv
      match k, hk, hv with
      | 0, hk, hv =>
        injection hk with hk; subst hk
        injection hv with hv; subst hv
        exact ⟨by decide, _, 0, 0, rfl, by decide, sl0 _ _⟩
      | k + 1, hk, _ => simp at hk
    | j + 1, hj => simp [oneM] at hj
theorem one_at' (w : World) : 
    MachAt ((((w.alloc (.cells #[.slice none 0 0] 28)).alloc (.cells #[.int .i64 0, .slice none 0 0] 49)).alloc (.cells #[.slice (some ⟨w.heap.size + 1, 0, none⟩) 1 1] 50)).alloc (.cells #[.int .i64 0] 3)) (some ⟨w.heap.size, 0, none⟩) 1 (some ⟨w.heap.size + 1 + 1, 0, none⟩) 1 oneM ∧
    Sl ((((w.alloc (.cells #[.slice none 0 0] 28)).alloc (.cells #[.int .i64 0, .slice none 0 0] 49)).alloc (.cells #[.slice (some ⟨w.heap.size + 1, 0, none⟩) 1 1] 50)).alloc (.cells #[.int .i64 0] 3)) 1 none 0 (ints oneM.words) ∧
    Sl ((((w.alloc (.cells #[.slice none 0 0] 28)).alloc (.cells #[.int .i64 0, .slice none 0 0] 49)).alloc (.cells #[.slice (some ⟨w.heap.size + 1, 0, none⟩) 1 1] 50)).alloc (.cells #[.int .i64 0] 3)) 1 (some ⟨w.heap.size + 1 + 1 + 1, 0, none⟩) 1 (ints ([0].map fun x : Nat => (x : Int))) :=
  one_at _ _ _ _ _ (((((blkN _ _ _ _ rfl).alloc _).alloc _).alloc _)) ((((blkN _ _ _ _ (by simp)).alloc _).alloc _)) (((blkN _ _ _ _ (by simp)).alloc _)) ((blkN _ _ _ _ (by simp)))
set_option maxHeartbeats 4000000 in
set_option maxRecDepth 100000 in
theorem kept_of (Aw Ac At As : Option Addr) (nw cw nc cc nt ct ns cs : Nat) (m : Mach) (l : List Nat) (w : World) (hnw : nw ≤ 200) (hnc : nc ≤ 8) (hnt : nt ≤ 4) (hns : ns ≤ 6000) (hncs : ns ≤ cs) (hT : STab w) (hm : MachAt w Ac nc At nt m) (hw : Sl w 1 Aw nw (ints m.words))
    (hl : Sl w 1 As ns (ints (l.map fun x : Nat => (x : Int)))) (hlt : ∀ x ∈ l, x < nt) (hnw0 : 0 < nw) (hcall : ∀ e ∈ (play m l).evs, e.call ≤ 1000) (hlen : (play m l).words.length = nw) (hx : (play m l).words[nw - 1]? = some (kE (play m l).evs : Int)) (hb : kB (play m l).evs ≤ kE (play m l).evs + 1) :
    Calls Tryd.prog 22 #[.agg #[.slice Aw nw cw, .slice Ac nc cc, .slice At nt ct], .slice As ns cs] w fun e w' => e = .returned (.bool true) ∧ Below w.heap.size w w' := by
  have HM := hid hm; have HW := hid hw; have HL := hid hl; have HLT := hid hlt; have HT := hid hT; have HLEN := hid hlen; have HXX := hid hx; have HBB := hid hb; have HCALL := hid hcall
  clear hm hw hl hlt hT hlen hx hb hcall
  obtain ⟨X, hX⟩ : ∃ X, w.heap.size = X := ⟨_, rfl⟩
  have BN := hid (bnew (bnil w) (.cells #[.slice Aw nw cw, .slice Ac nc cc, .slice At nt ct] 34))
  have HXB := hid (blkN w 34 #[.slice Aw nw cw, .slice Ac nc cc, .slice At nt ct] X hX)
  go_enter Tryd.func22, Tryd.ntmps22
  go_upto_region 1 with fail
  generalize World.alloc w _ = w2 at *
  have HXW := hid hX
  clear hX
  obtain ⟨xs, hxs⟩ : ∃ xs, (l.map fun x : Nat => (x : Int)) = xs := ⟨_, rfl⟩
  have hyl : xs.length = ns := by rw [← hxs]; have := HL.out.leni; exact this
  have HXL := hid hyl
  have HSL := hid (show Sl w2 1 As ns (xs.flatMap gI) by rw [← hxs]; exact HL.out.below BN.out)
  have HIS := hid (show ∀ (w' : World) (B c : Nat) (A' : Option Addr), w'.ownsRow B 3 1 (.slice A' xs.length c) xs.length (xs.flatMap gI) → Sl w' 1 A' xs.length (ints (l.map fun x : Nat => (x : Int))) from fun w' B c A' h => by have h2 := Sl.own h; rw [← hxs] at h2 ⊢; exact h2)
  have HYS := hid (show ∀ y : List Int, [] ++ y = y from fun y => rfl)
  clear hxs hyl
  have x0 : w2.cell? ⟨X, 0, none⟩ = some (.slice Aw nw cw) := HXB.out.cell 0
  have x1 : w2.cell? ⟨X, 1, none⟩ = some (.slice Ac nc cc) := HXB.out.cell 1
  have x2 : w2.cell? ⟨X, 2, none⟩ = some (.slice At nt ct) := HXB.out.cell 2
  have ltX := HXB.out.lt
  have HT2 := hid (HT.out.below BN.out)
  have HM2 := hid (HM.out.below BN.out)
  have HW2 := hid (HW.out.below BN.out)
  go_region_held3 (fun w' => Below w2.heap.size w2 w' ∧ w'.cell? ⟨X, 0, none⟩ = some (.slice Aw nw cw) ∧ w'.cell? ⟨X, 1, none⟩ = some (.slice Ac nc cc) ∧ w'.cell? ⟨X, 2, none⟩ = some (.slice At nt ct))
    ((refine sees3 ?_ x0 x1 x2; (repeat (first | assumption | exact (‹Below w2.heap.size w2 _ ∧ _ ∧ _›).1 | exact bnil _ | refine Below.drew ?_ | refine bnew ?_ _))))
    (first
      | (refine step_appB elmI gI_one rfl (.const (.slice none 0 0)) (.tmp 17) rfl (.slice none 0 0) [] rfl (own0 _ w2.heap.size _ 1) xs xs (hid (HYS.out xs)) rfl (Sl.drew HSL.out) HXL.out (by rw [HXL.out]; simp only [maxLen]; omega) (by rw [HXL.out]; omega) (Nat.le_refl _) ?_; intro E8 c8 w8 hc8 hc9 HN8 HG8; have HB8 : Below w2.heap.size w2 w8 := bgo (bnil w2).drew (grown_nil HG8.out))
      | (go_at_call 42; ((with_reducible refine (run_play _ _ _ _ nw cw nc cc nt ct xs.length c8 m l w8 hnw hnc hnt (by rw [HXL.out]; omega) (HT2.out.below HB8) (HM2.out.below HB8) (HW2.out.below HB8) (HIS.out _ _ _ _ HN8.out) HLT.out).mono ?_); rintro e w9 hp9; obtain ⟨ev9, wv9, es9, rfl, HA9, HE9, HT9, HW9, b9⟩ := hp9; have HB9 := bgo HB8 b9)))
  all_goals
    obtain ⟨A9, c9, rfl, hn9, hn9'⟩ := own_form HA9
    have HW9 : w9.ownsRow w8.heap.size 3 1 wv9 nw ((play m l).words.flatMap gI) := by have h : w9.ownsRow w8.heap.size 3 1 wv9 (play m l).words.length ((play m l).words.flatMap gI) := HW9; rwa [HLEN.out] at h
    obtain ⟨AW9, cW9, rfl, hnW9, hnW9'⟩ := own_form HW9
    have hsz8 := HB8.size
    have HEA := hid (own_lower HA9 (show w2.heap.size ≤ w8.heap.size from hsz8))
    have HEW := hid (own_lower HW9 (show w2.heap.size ≤ w8.heap.size from hsz8))
    have HEE := hid HE9
    have B9 := hid (bgo BN.out HB9)
    have HB9' := hid HB9
    have HT9' := hid (HT2.out.below HB9)
    have hmost := prun_most m l 0 (pinit m)
    have hel := evs_len' HE9
    have hpl : (play m l).evs.length ≤ 2 * ns := by
      have h2 : (pinit m).evs.length = 0 := rfl
      have h3 : l.length = ns := by have := HL.out.leni; simpa using this
      unfold play; omega
    have x0 := cell_below HB9 x0
    have ltX := Nat.lt_of_lt_of_le ltX HB9.size
    clear HN8 HG8 HB8 HA9 HE9 HT9 HW9 b9 HB9 hc8 hc9 HIS HSL HXL HYS x1 x2 hmost hsz8
    obtain ⟨L, hL⟩ : ∃ L, es9.length = L := ⟨_, rfl⟩
    rw [hL] at HEA hn9 hel ⊢
    have HLL := hid hL
    have hL2 : L ≤ 12000 := by omega
    clear hL hel hpl
    unfold maxLen at hn9' hnW9'
    have HKE := hid (fun k => Nat.le_trans (kE_le ((play m l).evs.take k)) (List.length_take_le k _))
    have HKB := hid (fun k => Nat.le_trans (kB_le ((play m l).evs.take k)) (List.length_take_le k _))
    go_wp2_with fail
    go_loopw [8, 9, 10] (fun u v i wr => ∃ (k : Nat), k ≤ L ∧ i = .int .i64 k ∧ u = .int .i64 (kE ((play m l).evs.take k) : Int) ∧ v = .int .i64 (kB ((play m l).evs.take k) : Int) ∧ Hid (Below w9.heap.size w9 wr)) (fun _ _ i _ => L - (intOf i).toNat)
    case atStart => exact ⟨0, Nat.zero_le _, rfl, rfl, rfl, hid (bnil _)⟩
    case round =>
      obtain ⟨k, hk, rfl, rfl, rfl, BR⟩ := hrel
      by_cases hlt : k < L
      · have j1 : (k : Int) < (L : Int) := by omega
        obtain ⟨y, hy1⟩ : ∃ y, es9[k]? = some y := ⟨_, List.getElem?_eq_getElem (by rw [HLL.out]; exact hlt)⟩
        obtain ⟨b9, rfl, vb, v0, v1, v2, v3, v4, v5⟩ := evs_at HEA.out hy1 (by omega)
        have ub : b9 < wr.heap.size := Nat.lt_of_lt_of_le vb BR.out.size
        have u2 := cell_below BR.out v2
        have u3 := cell_below BR.out v3
        have hyk : (play m l).evs[k]? = some y.1 := by rw [← HEE.out, List.getElem?_map, hy1]; rfl
        have hcl := HCALL.out y.1 (List.mem_of_getElem? hyk)
        have hke := kE_next hyk
        have hkb := kB_next hyk
        have hkel := HKE.out k
        have hkbl := HKB.out k
        clear hy1 hyk v0 v1 v2 v3 v4 v5
        obtain ⟨r, hr⟩ : ∃ r, y.1.call % 3 = r := ⟨_, rfl⟩
        have em : (y.1.call : Int).tmod 3 = (r : Int) := by rw [Int.tmod_eq_emod_of_nonneg (by omega), ← hr]; omega
        rw [hr] at hke hkb
        clear hr
        by_cases hr1 : r = 1
        · subst hr1
          cases hf : y.1.fin with
          | false =>
            rw [hf] at hke hkb u3
            have hke : kE ((play m l).evs.take (k + 1)) = kE ((play m l).evs.take k) := by rw [hke]; rfl
            have hkb : kB ((play m l).evs.take (k + 1)) = kB ((play m l).evs.take k) + 1 := by rw [hkb]; rfl
            have HK1 := hid hke; have HK2 := hid hkb
            clear hke hkb
            go_wp2_with fail
            go_roundw
            · exact ⟨k + 1, by omega, by go_num, by rw [HK1.out], by rw [HK2.out]; go_num, BR⟩
            · simp only [intOf]; omega
          | true =>
            rw [hf] at hke hkb u3
            have hke : kE ((play m l).evs.take (k + 1)) = kE ((play m l).evs.take k) + 1 := by rw [hke]; rfl
            have hkb : kB ((play m l).evs.take (k + 1)) = kB ((play m l).evs.take k) := by rw [hkb]; rfl
            have HK1 := hid hke; have HK2 := hid hkb
            clear hke hkb
            go_wp2_with fail
            go_roundw
            · exact ⟨k + 1, by omega, by go_num, by rw [HK1.out]; go_num, by rw [HK2.out], BR⟩
            · simp only [intOf]; omega
        · have e1 : ¬ ((r : Int) = 1) := by omega
          have hb1 : (r == 1) = false := by simpa using hr1
          rw [hb1] at hke hkb
          have hke : kE ((play m l).evs.take (k + 1)) = kE ((play m l).evs.take k) := by rw [hke]; rfl
          have hkb : kB ((play m l).evs.take (k + 1)) = kB ((play m l).evs.take k) := by rw [hkb]; rfl
          have HK1 := hid hke; have HK2 := hid hkb
          clear hke hkb hb1
          go_wp2_with fail
          go_roundw
          · exact ⟨k + 1, by omega, by go_num, by rw [HK1.out], by rw [HK2.out], BR⟩
          · simp only [intOf]; omega
      · obtain rfl : k = L := by omega
        have j1 : ¬ (k : Int) < (k : Int) := by omega
        have E := hid (show (play m l).evs.take k = (play m l).evs from List.take_of_length_le (by rw [← HEE.out, List.length_map, HLL.out]; exact Nat.le_refl _))
        rw [E.out]
        obtain ⟨bw, cw', hwE, _, hwc⟩ := own_at HEW.out hnw0
        injection hwE with hwE1 _ _
        subst hwE1
        have wc := hwc ((nw - 1) * 1 + 0) _ (by rw [flatMap_at gI 1 (fun _ => rfl) _ (nw - 1) 0 _ HXX.out (by decide)]; rfl)
        rw [Nat.mul_one, Nat.add_zero] at wc
        have wc := cell_below BR.out wc
        have wlt := World.block_lt_of_cell? wr _ wc
        have i1 : (0 : Int) ≤ (nw : Int) - 1 := by omega
        have i2 : (nw : Int) - 1 < (nw : Int) := by omega
        have i3 : ((nw : Int) - 1).toNat = nw - 1 := by omega
        have hke0 := HKE.out k; have hkb0 := HKB.out k
        rw [E.out] at hke0 hkb0
        obtain ⟨ke, hke⟩ : ∃ ke, kE (play m l).evs = ke := ⟨_, rfl⟩
        obtain ⟨kb, hkb⟩ : ∃ kb, kB (play m l).evs = kb := ⟨_, rfl⟩
        have hbb := HBB.out
        rw [hke] at wc hke0 hbb ⊢
        rw [hkb] at hkb0 hbb ⊢
        clear hwc hke hkb
        go_wp2_with fail
        obtain ⟨k1, k2, k3⟩ := one_at' wr
        have b4 := bnew (bnew (bnew (bnew (bnil wr) (.cells #[.slice none 0 0] 28)) (.cells #[.int .i64 0, .slice none 0 0] 49)) (.cells #[.slice (some ⟨wr.heap.size + 1, 0, none⟩) 1 1] 50)) (.cells #[.int .i64 0] 3)
        refine (run_play _ _ _ _ 0 0 1 1 1 1 1 1 oneM [0] _ (by decide) (by decide) (by decide) (by decide) (HT9'.out.below (bgo BR.out b4)) k1 k2 k3 (by simp)).mono ?_
        have B4 := hid b4
        clear k1 k2 k3 b4
        generalize World.alloc (World.alloc (World.alloc (World.alloc wr _) _) _) _ = w7 at *
        rintro e w8 hp
        obtain ⟨ev, wv, es, rfl, h1, h2, _, h3, b8⟩ := hp
        have hl : es.length = 2 := by have h := one_play; rw [← h2, List.length_map] at h; exact h
        rw [hl] at h1
        obtain ⟨A3, c3, rfl, hn3, _⟩ := own_form h1
        have B8 := hid (bgo (bgo BR.out B4.out) b8)
        clear h1 h2 h3 b8
        have i5 : (kb : Int) - (ke : Int) ≤ 1 := by omega
        go_wp2
        go_ret
        exact ⟨rfl, bgo (bgo BN.out HB9'.out) B8.out⟩
end

section
open Go.RowKit
theorem cells3 {w w' : World} {p q r : Addr} {a b c : Value} (h : Below w.heap.size w w') (hp : w.cell? p = some a) (hq : w.cell? q = some b) (hr : w.cell? r = some c) : w'.cell? p = some a ∧ w'.cell? q = some b ∧ w'.cell? r = some c := ⟨cell_below h hp, cell_below h hq, cell_below h hr⟩
/-- no call's number is beyond those of its thread -/
theorem pstep_call {m : Mach} {N : Nat} (hN : ∀ calls ∈ m.threads, calls.length ≤ N) {i n : Nat} {s : PS} (h1 : ∀ p ∈ s.ths, p.next ≤ N) (h2 : ∀ e ∈ s.evs, e.call ≤ N) : (∀ p ∈ (pstep m i n s).ths, p.next ≤ N) ∧ ∀ e ∈ (pstep m i n s).evs, e.call ≤ N := by
  unfold pstep
  split
  · rename_i p calls hp hc
    have hp1 := h1 p (List.mem_of_getElem? hp)
    have hc1 := hN calls (List.mem_of_getElem? hc)
    have hq : (pbeg m i n calls p).1.next ≤ N ∧ ∀ e ∈ (pbeg m i n calls p).2, e.call ≤ N := by
      unfold pbeg
      split
      · exact ⟨hp1, fun e he => by cases he⟩
      · split
        · exact ⟨hp1, fun e he => by cases he⟩
        · rename_i c hcc
          have := (List.getElem?_eq_some_iff.1 hcc).1
          refine ⟨by show p.next + 1 ≤ N; omega, fun e he => ?_⟩
          rw [List.mem_singleton.1 he]
          exact hp1
    unfold pact
    split
    · exact ⟨h1, h2⟩
    · split
      · refine ⟨fun p' hp' => ?_, fun e he => ?_⟩
        · rcases List.mem_or_eq_of_mem_set hp' with h | rfl
          · exact h1 p' h
          · exact hq.1
        · rcases List.mem_append.1 he with h | h
          · exact h2 e h
          · rcases List.mem_append.1 h with h | h
            · exact hq.2 e h
            · rw [List.mem_singleton.1 h]
              have := hq.1
              show (pbeg m i n calls p).1.next - 1 ≤ N
              omega
      · refine ⟨fun p' hp' => ?_, fun e he => ?_⟩
        · rcases List.mem_or_eq_of_mem_set hp' with h | rfl
          · exact h1 p' h
          · exact hq.1
        · rcases List.mem_append.1 he with h | h
          · exact h2 e h
          · exact hq.2 e h
  · exact ⟨h1, h2⟩
theorem prun_call {m : Mach} {N : Nat} (hN : ∀ calls ∈ m.threads, calls.length ≤ N) : ∀ (l : List Nat) (i : Nat) (s : PS), (∀ p ∈ s.ths, p.next ≤ N) → (∀ e ∈ s.evs, e.call ≤ N) → ∀ e ∈ (prun m i l s).evs, e.call ≤ N
  | [], _, _, _, h2 => h2
  | n :: l, i, s, h1, h2 => by
    have h := pstep_call hN (i := i) (n := n) h1 h2
    exact prun_call hN l (i + 1) _ h.1 h.2
theorem play_call {m : Mach} {N : Nat} (hN0 : N ≤ 1000) (hN : ∀ calls ∈ m.threads, calls.length ≤ N) (l : List Nat) : ∀ e ∈ (play m l).evs, e.call ≤ 1000 := fun e he => by
  have := prun_call hN l 0 (pinit m) (fun p hp => by
    unfold pinit at hp
    have := List.eq_of_mem_replicate hp
    subst this; exact Nat.zero_le _) (fun e he => by cases he) e he
  omega
theorem gcalls_lock (t : Nat) : ∀ i, gcalls true t i = lcalls 1 t i
  | 0 => rfl
  | i + 1 => by rw [gcalls, lcalls, gcalls_lock t i]; rfl
theorem gmach_eq (n : Nat) : gmachN true n (2 * n) (List.replicate (2 * n) 0 ++ [0]) (lenterCode n) (lleaveCode n) = gmach n := by
  unfold gmachN gmach
  congr 1
  refine List.map_congr_left fun t ht => ?_
  unfold gths
  rw [if_pos (List.mem_range.1 ht), gcalls_lock]
set_option maxHeartbeats 8000000 in
set_option maxRecDepth 100000 in
theorem law_topGuardLock (xi : Int) (S : Option Addr) (p q : Nat) (bs : List UInt8) (w : World) (ha : -9223372036854775808 ≤ xi) (ha1 : xi ≤ 9223372036854775807) (hp : p ≤ q) (hq : q ≤ maxLen) (_ : q * 1 ≤ 140737488351232) (hS : Sl w 1 S p (byts bs)) (hT : STab w) :
    Calls Tryd.prog 4 #[.int .i64 xi, .slice S p q] w fun e w' => e = .returned (.bool true) ∧ Below w.heap.size w w' := by
  have HS := hid hS; have HT := hid hT
  clear hS hT
  have hpl : p ≤ 9223372036854775807 := by unfold maxLen at hq; omega
  clear hq
  have m1 := pk_lt xi 4 (by decide)
  obtain ⟨n, hR⟩ : ∃ n : Nat, wrap64 (1 + (pk xi 4 : Int)) = (n : Int) ∧ n = 1 + pk xi 4 := ⟨1 + pk xi 4, by rw [wrap_mid (by omega) (by omega)]; omega, rfl⟩
  have h1 : 1 ≤ n := by omega
  have h4 : n ≤ 4 := by omega
  have HR := hid hR.1
  clear hR m1
  go_enter Tryd.func4, Tryd.ntmps4
  go_wp2_with fail
  refine (picked xi 4 w (by decide) ha ha1 (by decide)).mono ?_
  rintro e w' ⟨rfl, rfl⟩
  go_wp2_with fail
  try rw [HR.out]
  refine (lock_words n w h1 h4).mono ?_
  rintro e w1 ⟨v1, rfl, o1⟩
  obtain ⟨A0, c0, rfl, hc0, hc02⟩ := o1.form
  have HWL := hid (show (List.replicate (2 * n) (0 : Int)).length = 2 * n by simp)
  have O1 := hid o1
  rw [HWL.out] at hc0 ⊢
  clear o1
  go_wp2_with fail
  try rw [HR.out]
  refine (lock_enter n w1 h1 h4).mono ?_
  rintro e w2 ⟨v2, rfl, o2⟩
  obtain ⟨A1, c1, rfl, hc1, hc12⟩ := o2.form
  obtain ⟨n1, hn1⟩ : ∃ n1, (lenterCode n).length = n1 := ⟨_, rfl⟩
  have O2 := hid o2
  rw [hn1] at O2 hc1 ⊢
  have HN1 := hid hn1
  clear o2 hn1
  go_wp2_with fail
  try rw [HR.out]
  refine (lock_leave n w2 h1 h4).mono ?_
  rintro e w3 ⟨v3, rfl, o3⟩
  obtain ⟨A2, c2, rfl, hc2, hc22⟩ := o3.form
  obtain ⟨n2, hn2⟩ : ∃ n2, (lleaveCode n).length = n2 := ⟨_, rfl⟩
  have O3 := hid o3
  rw [hn2] at O3 hc2 ⊢
  have HN2 := hid hn2
  clear o3 hn2
  have B1 := hid O1.out.below
  have B2 := hid (bgo B1.out O2.out.below)
  have B3 := hid (bgo B2.out O3.out.below)
  have HSW := hid (show Sl w3 1 A0 (2 * n) (ints (List.replicate (2 * n) (0 : Int))) from by have h := (O1.out.sl.below (bgo O2.out.below O3.out.below)); rw [HWL.out] at h; exact h)
  have HC1 := hid (own_below (own_lower O2.out.own B1.out.size) O3.out.below)
  have HC2 := hid (own_lower O3.out.own B2.out.size)
  rw [HN1.out] at HC1
  rw [HN2.out] at HC2
  have hp1 : 0 < n1 ∧ n1 ≤ 200 := by rw [← HN1.out]; rw [lenter_len h1 h4]; omega
  have hp2 : 0 < n2 ∧ n2 ≤ 200 := by rw [← HN2.out]; exact ⟨Nat.le_of_ble_eq_true rfl, Nat.le_of_ble_eq_true rfl⟩
  clear O1 O2 O3 hc0 hc02 hc1 hc12 hc2 hc22
  go_wp2_with fail
  try rw [HR.out]
  refine (guarded_of n (2 * n) n1 n2 A0 A1 A2 c0 c1 c2 true (List.replicate (2 * n) (0 : Int)) (lenterCode n) (lleaveCode n) w w3 h1 h4 (by omega) (by omega) B3.out HSW.out HC1.out HC2.out hp1.1 hp2.1 HN1.out HN2.out ⟨by rw [HN1.out]; exact hp1.2, lenter_sh h1 h4⟩ ⟨by rw [HN2.out]; exact hp2.2, lleave_sh h4⟩ HT.out).mono ?_
  rintro e w4 ⟨AW, cW, Cb, T, cv, tv, av, rfl, hW4, hM4, b4⟩
  obtain ⟨NW, hNW⟩ : ∃ NW, ((List.replicate (2 * n) (0 : Int)) ++ [(0 : Int)]).length = NW := ⟨_, rfl⟩
  have HW := hid hW4; have HM := hid hM4; have B4 := hid b4
  rw [hNW] at HW ⊢
  have HNW2 := hid (show NW = (2 * n) + 1 by rw [← hNW, List.length_append, HWL.out]; rfl)
  have HNW := hid (show 0 < NW ∧ NW ≤ 10 by have := HNW2.out; omega)
  clear hW4 hM4 b4 hNW HSW HC1 HC2 B1 B2 B3 hp1 hp2 HN1 HN2
  obtain ⟨X, hX⟩ : ∃ X, w4.heap.size = X := ⟨_, rfl⟩
  go_upto_region 6 with fail
  have HX0 := hid (blkN w4 34 #[.slice AW NW cW, .slice (some ⟨Cb, 0, none⟩) 3 3, .slice (some ⟨T, 0, none⟩) n n] X hX)
  have BA := hid (bgo B4.out (bnew (bnil w4) (.cells #[.slice AW NW cW, .slice (some ⟨Cb, 0, none⟩) 3 3, .slice (some ⟨T, 0, none⟩) n n] 34)))
  have HMN := hid (HM.out.below (bnew (bnil w4) (.cells #[.slice AW NW cW, .slice (some ⟨Cb, 0, none⟩) 3 3, .slice (some ⟨T, 0, none⟩) n n] 34)))
  have HMA := hid (by have h := gmach_at (ws := (List.replicate (2 * n) (0 : Int)) ++ [0]) HMN.out h4 ⟨by rw [lenter_len h1 h4]; omega, lenter_sh h1 h4⟩ ⟨Nat.le_of_ble_eq_true rfl, lleave_sh h4⟩ (by omega); rw [gmach_eq] at h; exact h)
  have HWA := hid (own_below HW.out (bnew (bnil w4) (.cells #[.slice AW NW cW, .slice (some ⟨Cb, 0, none⟩) 3 3, .slice (some ⟨T, 0, none⟩) n n] 34)))
  generalize World.alloc w4 _ = wA at *
  clear hX HM HW HMN
  have y0 : wA.cell? ⟨X, 0, none⟩ = some (.slice AW NW cW) := HX0.out.cell 0
  have y1 : wA.cell? ⟨X, 1, none⟩ = some (.slice (some ⟨Cb, 0, none⟩) 3 3) := HX0.out.cell 1
  have y2 : wA.cell? ⟨X, 2, none⟩ = some (.slice (some ⟨T, 0, none⟩) n n) := HX0.out.cell 2
  have HCL := hid (show ∀ calls ∈ (gmach n).threads, calls.length ≤ 18 from fun calls h => by
    obtain ⟨t, ht, rfl⟩ := List.mem_map.1 h
    have := lcalls_len 1 t 6; omega)
  refine wp_region_held_drew (S := (fun w' => w'.cell? ⟨X, 0, none⟩ = some (.slice AW NW cW) ∧ w'.cell? ⟨X, 1, none⟩ = some (.slice (some ⟨Cb, 0, none⟩) 3 3) ∧ w'.cell? ⟨X, 2, none⟩ = some (.slice (some ⟨T, 0, none⟩) n n))) (by kernel_rfl) ?_ (fun hHeld => ?_)
  · (try dsimp only); (first | assumption | exact ⟨y0, y1, y2⟩ | exact ⟨z0, z1, z2⟩ | exact ⟨u0, u1, u2⟩)
  refine wpAnyH_take (i := 0) (oi := ⟨some 40, _, _, _, _, _⟩) (v := ?_) rfl (by kernel_rfl) (by kernel_rfl) (by kernel_rfl) (fun _ _ _ h => h) (Or.inl ⟨by rfl, ?_⟩) (by assumption) ?_
  rotate_left
  · intro w hSw; (try dsimp only at hSw); go_simp <;> with_reducible rfl
  try simp only [Act.put, List.setIfInBounds_toArray, List.set_cons_zero, List.set_cons_succ]
  refine wpAnyH_take (i := 1) (oi := ⟨some 41, _, _, _, _, _⟩) (v := ?_) rfl (by kernel_rfl) (by kernel_rfl) (by kernel_rfl) (fun _ _ _ h => h) (Or.inl ⟨by rfl, ?_⟩) (by assumption) ?_
  rotate_left
  · intro w hSw; (try dsimp only at hSw); go_simp <;> with_reducible rfl
  try simp only [Act.put, List.setIfInBounds_toArray, List.set_cons_zero, List.set_cons_succ]
  refine wpAnyH_take (i := 2) (oi := ⟨some 42, _, _, _, _, _⟩) (v := ?_) rfl (by kernel_rfl) (by kernel_rfl) (by kernel_rfl) (fun _ _ _ h => h) (Or.inl ⟨by rfl, ?_⟩) (by assumption) ?_
  rotate_left
  · intro w hSw; (try dsimp only at hSw); go_simp <;> with_reducible rfl
  try simp only [Act.put, List.setIfInBounds_toArray, List.set_cons_zero, List.set_cons_succ]
  refine wpAnyH_take (i := 3) (oi := ⟨some 43, _, _, _, _, _⟩) (v := ?_) rfl (by kernel_rfl) (by kernel_rfl) (by kernel_rfl) (fun _ _ _ h => h) (Or.inl ⟨by rfl, ?_⟩) (by assumption) ?_
  rotate_left
  · intro w hSw; (try dsimp only at hSw); go_simp <;> with_reducible rfl
  try simp only [Act.put, List.setIfInBounds_toArray, List.set_cons_zero, List.set_cons_succ]
  refine wpAnyH_take (i := 4) (oi := ⟨some 44, _, _, _, _, _⟩) (v := ?_) rfl (by kernel_rfl) (by kernel_rfl) (by kernel_rfl) (fun _ _ _ h => h) (Or.inl ⟨by rfl, ?_⟩) (by assumption) ?_
  rotate_left
  · intro w hSw; (try dsimp only at hSw); go_simp <;> with_reducible rfl
  try simp only [Act.put, List.setIfInBounds_toArray, List.set_cons_zero, List.set_cons_succ]
  refine wpAnyH_take (i := 5) (oi := ⟨some 45, _, _, _, _, _⟩) (v := ?_) rfl (by kernel_rfl) (by kernel_rfl) (by kernel_rfl) (fun _ _ _ h => h) (Or.inl ⟨by rfl, ?_⟩) (by assumption) ?_
  rotate_left
  · intro w hSw; (try dsimp only at hSw); go_simp <;> with_reducible rfl
  try simp only [Act.put, List.setIfInBounds_toArray, List.set_cons_zero, List.set_cons_succ]
  refine wpAnyH_take (i := 6) (oi := ⟨some 46, _, _, _, _, _⟩) (v := ?_) rfl (by kernel_rfl) (by kernel_rfl) (by kernel_rfl) (fun _ _ _ h => h) (Or.inl ⟨by rfl, ?_⟩) (by assumption) ?_
  rotate_left
  · intro w hSw; (try dsimp only at hSw); go_simp <;> with_reducible rfl
  try simp only [Act.put, List.setIfInBounds_toArray, List.set_cons_zero, List.set_cons_succ]
  refine wpAnyH_take (i := 7) (oi := ⟨some 47, _, _, _, _, _⟩) (v := ?_) rfl (by kernel_rfl) (by kernel_rfl) (by kernel_rfl) (fun _ _ _ h => h) (Or.inl ⟨by rfl, ?_⟩) (by assumption) ?_
  rotate_left
  · intro w hSw; (try dsimp only at hSw); go_simp <;> with_reducible rfl
  try simp only [Act.put, List.setIfInBounds_toArray, List.set_cons_zero, List.set_cons_succ]
  refine wpAnyH_take (i := 8) (oi := ⟨some 48, _, _, _, _, _⟩) (v := ?_) rfl (by kernel_rfl) (by kernel_rfl) (by kernel_rfl) (fun _ _ _ h => h) (Or.inl ⟨by rfl, ?_⟩) (by assumption) ?_
  rotate_left
  · intro w hSw; (try dsimp only at hSw); go_simp <;> with_reducible rfl
  try simp only [Act.put, List.setIfInBounds_toArray, List.set_cons_zero, List.set_cons_succ]
  refine wpAnyH_take (i := 9) (oi := ⟨some 49, _, _, _, _, _⟩) (v := ?_) rfl (by kernel_rfl) (by kernel_rfl) (by kernel_rfl) (fun _ _ _ h => h) (Or.inl ⟨by rfl, ?_⟩) (by assumption) ?_
  rotate_left
  · intro w hSw; (try dsimp only at hSw); go_simp <;> with_reducible rfl
  try simp only [Act.put, List.setIfInBounds_toArray, List.set_cons_zero, List.set_cons_succ]
  refine wpAnyH_take (i := 10) (oi := ⟨some 50, _, _, _, _, _⟩) (v := ?_) rfl (by kernel_rfl) (by kernel_rfl) (by kernel_rfl) (fun _ _ _ h => h) (Or.inl ⟨by rfl, ?_⟩) (by assumption) ?_
  rotate_left
  · intro w hSw; (try dsimp only at hSw); go_simp <;> with_reducible rfl
  try simp only [Act.put, List.setIfInBounds_toArray, List.set_cons_zero, List.set_cons_succ]
  refine wpAnyH_take (i := 11) (oi := ⟨some 51, _, _, _, _, _⟩) (v := ?_) rfl (by kernel_rfl) (by kernel_rfl) (by kernel_rfl) (fun _ _ _ h => h) (Or.inl ⟨by rfl, ?_⟩) (by assumption) ?_
  rotate_left
  · intro w hSw; (try dsimp only at hSw); go_simp <;> with_reducible rfl
  try simp only [Act.put, List.setIfInBounds_toArray, List.set_cons_zero, List.set_cons_succ]
  refine wpAnyH_take (i := 12) (oi := ⟨some 52, _, _, _, _, _⟩) (v := ?_) rfl (by kernel_rfl) (by kernel_rfl) (by kernel_rfl) (fun _ _ _ h => h) (Or.inl ⟨by rfl, ?_⟩) (by assumption) ?_
  rotate_left
  · intro w hSw; (try dsimp only at hSw); go_simp <;> with_reducible rfl
  try simp only [Act.put, List.setIfInBounds_toArray, List.set_cons_zero, List.set_cons_succ]
  refine wpAnyH_take (i := 13) (oi := ⟨some 53, _, _, _, _, _⟩) (v := ?_) rfl (by kernel_rfl) (by kernel_rfl) (by kernel_rfl) (fun _ _ _ h => h) (Or.inl ⟨by rfl, ?_⟩) (by assumption) ?_
  rotate_left
  · intro w hSw; (try dsimp only at hSw); go_simp <;> with_reducible rfl
  try simp only [Act.put, List.setIfInBounds_toArray, List.set_cons_zero, List.set_cons_succ]
  refine wpAnyH_take (i := 14) (oi := ⟨some 54, _, _, _, _, _⟩) (v := ?_) rfl (by kernel_rfl) (by kernel_rfl) (by kernel_rfl) (fun _ _ _ h => h) (Or.inl ⟨by rfl, ?_⟩) (by assumption) ?_
  rotate_left
  · intro w hSw; (try dsimp only at hSw); go_simp <;> with_reducible rfl
  try simp only [Act.put, List.setIfInBounds_toArray, List.set_cons_zero, List.set_cons_succ]
  refine wpAnyH_take (i := 15) (oi := ⟨some 55, _, _, _, _, _⟩) (v := ?_) rfl (by kernel_rfl) (by kernel_rfl) (by kernel_rfl) (fun _ _ _ h => h) (Or.inl ⟨by rfl, ?_⟩) (by assumption) ?_
  rotate_left
  · intro w hSw; (try dsimp only at hSw); go_simp <;> with_reducible rfl
  try simp only [Act.put, List.setIfInBounds_toArray, List.set_cons_zero, List.set_cons_succ]
  refine wpAnyH_take (i := 16) (oi := ⟨some 56, _, _, _, _, _⟩) (v := ?_) rfl (by kernel_rfl) (by kernel_rfl) (by kernel_rfl) (fun _ _ _ h => h) (Or.inl ⟨by rfl, ?_⟩) (by assumption) ?_
  rotate_left
  · intro w hSw; (try dsimp only at hSw); go_simp <;> with_reducible rfl
  try simp only [Act.put, List.setIfInBounds_toArray, List.set_cons_zero, List.set_cons_succ]
  refine wpAnyH_ready (rs := [17]) (by kernel_rfl) (by simp) ?_
  refine AllReadyH.cons (o := ⟨some 57, _, _, _, _, _⟩) rfl (fun K hK => ?_) AllReadyH.nil
  go_simp
  refine (schedule_n S p q n 3000 bs _ hpl (by omega) (by omega) (by decide) (HS.out.below (bgo BA.out (bnil wA).drew))).mono ?_; rintro e w2 ⟨v, rfl, ho⟩; have hl4 : (schedN bs n 3000).length ≤ 3000 := (by have := schedN_len bs n 3000; omega); have HLT := hid (schedN_lt bs (N := n) (by omega) 3000); generalize schedN bs n 3000 = all at *; obtain ⟨Al, cl, rfl, hcl, hcl2⟩ := ho.form; have HO := hid ho; clear ho; rw [show (nats all).length = all.length by simp] at *; unfold maxLen at hcl2; obtain ⟨N, hN⟩ : ∃ N, all.length = N := ⟨_, rfl⟩; rw [hN] at HO hl4 hcl ⊢; have HN := hid hN; clear hN; have BS := hid (bgo (bnil wA).drew HO.out.below); obtain ⟨z0, z1, z2⟩ := cells3 BS.out y0 y1 y2
  go_wp2_with fail
  refine hK.out _ _ ?_ (fun hHeld => ?_)
  · (try dsimp only); (first | assumption | exact ⟨y0, y1, y2⟩ | exact ⟨z0, z1, z2⟩ | exact ⟨u0, u1, u2⟩)
  clear hK K
  try simp only [Act.put, List.setIfInBounds_toArray, List.set_cons_zero, List.set_cons_succ]
  refine wpAnyH_ready (rs := [18]) (by kernel_rfl) (by simp) ?_
  refine AllReadyH.cons (o := ⟨some 58, _, _, _, _, _⟩) rfl (fun K hK => ?_) AllReadyH.nil
  go_simp
  have HWS := hid (show Sl w2 1 AW NW (ints (gmach n).words) from Sl.own (own_below HWA.out BS.out)); have HP := hid (guard_play h1 h4 (l := all) (by rw [HN.out]; omega)); have HMB := hid (HMA.out.below BS.out); refine (kept_of AW (some ⟨Cb, 0, none⟩) (some ⟨T, 0, none⟩) Al NW cW 3 3 n n N cl (gmach n) all w2 (by have := HNW.out; omega) (by decide) (by omega) (by omega) hcl (HT.out.below (bgo BA.out BS.out)) HMB.out HWS.out HO.out.sl HLT.out (by have := HNW.out; omega) (play_call (N := 18) (by decide) HCL.out all) (by rw [HP.out.1]; exact HNW2.out.symm) (by have h := HP.out.2.1; rw [HNW2.out]; exact h) HP.out.2.2.1).mono ?_; rintro e w3 ⟨rfl, b3⟩; have B3 := hid (bgo BS.out b3); clear b3; obtain ⟨u0, u1, u2⟩ := cells3 B3.out y0 y1 y2
  go_wp2_with fail
  refine hK.out _ _ ?_ (fun hHeld => ?_)
  · (try dsimp only); (first | assumption | exact ⟨y0, y1, y2⟩ | exact ⟨z0, z1, z2⟩ | exact ⟨u0, u1, u2⟩)
  clear hK K
  try simp only [Act.put, List.setIfInBounds_toArray, List.set_cons_zero, List.set_cons_succ]
  refine wpAnyH_take (i := 19) (oi := ⟨some 59, _, _, _, _, _⟩) (v := ?_) rfl (by kernel_rfl) (by kernel_rfl) (by kernel_rfl) (fun _ _ _ h => h) (Or.inl ⟨by rfl, ?_⟩) (by assumption) ?_
  rotate_left
  · intro w hSw; (try dsimp only at hSw); go_simp <;> with_reducible rfl
  try simp only [Act.put, List.setIfInBounds_toArray, List.set_cons_zero, List.set_cons_succ]
  refine wpAnyH_take (i := 20) (oi := ⟨some 4, _, _, _, _, _⟩) (v := ?_) rfl (by kernel_rfl) (by kernel_rfl) (by kernel_rfl) (fun _ _ _ h => h) (Or.inl ⟨by rfl, ?_⟩) (by assumption) ?_
  rotate_left
  · intro w hSw; (try dsimp only at hSw); go_simp <;> with_reducible rfl
  try simp only [Act.put, List.setIfInBounds_toArray, List.set_cons_zero, List.set_cons_succ]
  refine wpAnyH_done (by kernel_rfl) ?_ _
  rotate_left
  have B03 := hid (bgo BA.out B3.out)
  clear hHeld
  clear z0 z1 z2 u0 u1 u2 y0 y1 y2 HX0 HMA HWA BA HO HWS HMB BS
  go_wp2_with fail
  go_ret
  exact ⟨rfl, B03.out⟩
end
end Go.Proofs.YtbcjgnigdddlkaaDoor
