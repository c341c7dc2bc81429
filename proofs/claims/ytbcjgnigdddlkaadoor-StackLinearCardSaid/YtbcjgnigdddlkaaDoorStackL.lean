/-
  All that a maker of a machine has in memory while threads' calls are appended, in one bundle. Small lemmas about cells, for makers of machines. barographkeep.stackMachine: its walk. Written by gen_omach.py. StackLinear: its walk. Written by gen_olin.py. (Merged by merge.py.)
-/
import Derived.Test.YtbcjgnigdddlkaaDoorMachN
import Derived.Test.YtbcjgnigdddlkaaDoorInv
import Derived.Test.YtbcjgnigdddlkaaDoorAsm3
import Derived.Test.YtbcjgnigdddlkaaDoorQPl
import Derived.Test.YtbcjgnigdddlkaaDoorRunMay
import Derived.Test.YtbcjgnigdddlkaaDoorCodesS2
import Derived.Deep.RegionHeld
import Derived.Test.YtbcjgnigdddlkaaDoorTuO
import Derived.Test.YtbcjgnigdddlkaaDoorSPl
namespace Go.Proofs.YtbcjgnigdddlkaaDoor
set_option linter.unusedVariables false

section
open Go.RowKit
abbrev nil3 : Array Value := #[.slice none 0 0, .slice none 0 0, .slice none 0 0]
structure MBun (W0 w : World) (g0 : Nat) (cs0 : Array Value) (R X Cb T nc nt : Nat) (Wv : Value) (ws : List Int) (cv : Nat → Value) (ks : Nat → List Op5) (tv : Nat → Value) (th : Nat → List VCall) (av : Nat → List SV) : Prop where
  below : Below W0.heap.size W0 w
  hg : Blk w g0 34 cs0
  hr : Blk w R 34 nil3
  hx : Blk w X 34 #[Wv, .slice (some ⟨Cb, 0, none⟩) nc nc, .slice (some ⟨T, 0, none⟩) nt nt]
  own : w.ownsRow W0.heap.size 3 1 Wv ws.length (ws.flatMap gI)
  mn : MN W0.heap.size w nc nt Cb T cv ks tv th av
/-- thread j's row, ahead of an append -/
structure ARow (W0 wr : World) (X T j nt L : Nat) (Aj : Option Addr) (cj : Nat) (l : List (VCall × SV)) : Prop where
  size : W0.heap.size ≤ wr.heap.size
  c2 : wr.cell? ⟨X, 2, none⟩ = some (.slice (some ⟨T, 0, none⟩) nt nt)
  c3 : wr.cell? ⟨T, j, none⟩ = some (.slice Aj L cj)
  f3 : wr.frozen? ⟨T, j, none⟩ = false
  len : l.length = L
  hcj : L ≤ cj
  hcm : cj ≤ maxLen
  row : ∀ w', Below wr.heap.size wr w' → w'.ownsRow W0.heap.size 49 2 (.slice Aj L cj) l.length (l.flatMap gS)
  grow : ∀ wA w6, Below wr.heap.size wr wA → wA.grownBy w6 (Value.slice Aj L cj).ownBlock → (w6.cell? ⟨X, 2, none⟩ = some (.slice (some ⟨T, 0, none⟩) nt nt) ∧ w6.frozen? ⟨T, j, none⟩ = false) ∧ w6.cell? ⟨T, j, none⟩ = some (.slice Aj L cj) ∧
      ∀ v, ((w6.setCell ⟨T, j, none⟩ v).cell? ⟨X, 2, none⟩ = some (.slice (some ⟨T, 0, none⟩) nt nt) ∧ (w6.setCell ⟨T, j, none⟩ v).frozen? ⟨T, j, none⟩ = false)
section
variable {W0 w w' : World} {g0 : Nat} {cs0 : Array Value} {R X Cb T nc nt : Nat} {Wv : Value} {ws : List Int} {cv : Nat → Value} {ks : Nat → List Op5} {tv : Nat → Value} {th : Nat → List VCall} {av : Nat → List SV}
theorem MBun.step (h : MBun W0 w g0 cs0 R X Cb T nc nt Wv ws cv ks tv th av) (hb : Below w.heap.size w w') : MBun W0 w' g0 cs0 R X Cb T nc nt Wv ws cv ks tv th av :=
  ⟨bgo h.below hb, h.hg.below' hb, h.hr.below' hb, h.hx.below' hb, own_below h.own hb, h.mn.below hb⟩
theorem MBun.row (h : MBun W0 w g0 cs0 R X Cb T nc nt Wv ws cv ks tv th av) {j : Nat} (hj : j < nt) : ∃ (Aj : Option Addr) (cj : Nat), tv j = .slice Aj (th j).length cj ∧ ARow W0 w X T j nt (th j).length Aj cj ((th j).zip (av j)) := by
  have hrow := h.mn.rows j hj
  obtain ⟨Aj, cj, hAj, hcj1, hcj2⟩ := own_form hrow.2.1
  have hlen : ((th j).zip (av j)).length = (th j).length := by rw [List.length_zip, hrow.1, Nat.min_self]
  refine ⟨Aj, cj, hAj, h.below.size, h.hx.cell 2, ?_, h.mn.tb.frozen j, hlen, hcj1, hcj2, fun w' hb => ?_, fun wA w6 hb hG => ?_⟩
  · rw [h.mn.tb.cell j, arrN_at tv hj, hAj]
  · have h1 := own_below hrow.2.1 hb
    rw [hAj] at h1
    rw [hlen]
    exact h1
  · rw [← hAj] at hG
    obtain ⟨g1, g2⟩ := h.mn.grown hj hb hG
    have gX := g2 (by decide) h.hx
    exact ⟨⟨gX.cell 2, g1.frozen j⟩, by rw [g1.cell j, arrN_at tv hj, hAj], fun v => ⟨(gX.far (p := ⟨T, j, none⟩) (gX.ne_ g1 (by decide)) v).cell 2, (g1.set_ j v).frozen j⟩⟩
/-- behind an append -/
theorem MBun.app (h : MBun W0 w g0 cs0 R X Cb T nc nt Wv ws cv ks tv th av) {j : Nat} (hj : j < nt) {wA w6 : World} {v' : Value} (cs : List VCall) (as_ : List SV) {y : List (VCall × SV)}
    (hb : Below w.heap.size w wA) (hl : as_.length = cs.length) (ha : ∀ (k : Nat) (c : VCall) (a : SV), cs[k]? = some c → as_[k]? = some a → wA.ownsRow W0.heap.size 3 1 a.v c.args.length (c.args.flatMap gI)) (hy : (th j).zip (av j) ++ cs.zip as_ = y)
    (hG : wA.grownBy w6 (tv j).ownBlock) (hv : v'.ownBlock = (tv j).ownBlock ∨ v'.ownBlock = some wA.heap.size) (hr : w6.ownsRow W0.heap.size 49 2 v' y.length (y.flatMap gS)) :
    MBun W0 (w6.setCell ⟨T, j, none⟩ v') g0 cs0 R X Cb T nc nt Wv ws cv ks (upd tv j v') (upd th j (th j ++ cs)) (upd av j (av j ++ as_)) := by
  obtain ⟨g1, g2⟩ := h.mn.grown hj hb hG
  have far : ∀ {g : Nat} {cs : Array Value}, Blk w g 34 cs → Blk (w6.setCell ⟨T, j, none⟩ v') g 34 cs := fun hx => (g2 (by decide) hx).far (p := ⟨T, j, none⟩) ((g2 (by decide) hx).ne_ g1 (by decide)) v'
  exact ⟨(h.mn.chg hj hb hG h.below rfl v').2, far h.hg, far h.hr, far h.hx, h.mn.other hj hb hG h.own (by decide) (by decide) v', h.mn.snoc hj cs as_ hb hl ha hy hG hv hr⟩
/-- a cell of a code -/
theorem MBun.setop (h : MBun W0 w g0 cs0 R X Cb T nc nt Wv ws cv ks tv th av) {i0 bk n c k j : Nat} (hi0 : i0 < nc) (hcv : cv i0 = .slice (some ⟨bk, 0, none⟩) n c) (hn : (ks i0).length = n) (hap : ∀ i, i < nc → i ≠ i0 → (cv i).ownBlock ≠ some bk) {x y : Op5} {u : Value}
    (hx : (ks i0)[k]? = some x) (hj : j < 5) (hy : gO y = (gO x).set j u) :
    MBun W0 (w.setCell ⟨bk, k * 5 + j, none⟩ u) g0 cs0 R X Cb T nc nt Wv ws cv (upd ks i0 ((ks i0).set k y)) tv th av := by
  have ho := h.mn.os i0 hi0
  rw [hcv, hn] at ho
  obtain ⟨h1, _⟩ := own_setG (g := gO) (fun _ => rfl) ho hx hj hy
  have hb : (Value.slice (some ⟨bk, 0, none⟩) n c).ownBlock = some bk := rfl
  have hge := (own_ge ho bk rfl).1
  have hS : Chg (fun k => k = bk) w (w.setCell ⟨bk, k * 5 + j, none⟩ u) := (Chg.refl (fun k => k = bk) w).setCell (p := ⟨bk, k * 5 + j, none⟩) (fun _ => rfl) _
  have bkey : ∀ {g t : Nat} {cs : Array Value}, t ≠ 71 → Blk w g t cs → Blk (w.setCell ⟨bk, k * 5 + j, none⟩ u) g t cs := fun h1 h2 => hS.blk h2 fun e => own_ne_blk ho h2 (Ne.symm h1) (by rw [hb, e])
  have okey : ∀ {B' e sz n' : Nat} {v : Value} {xs : List Value}, e ≠ 71 → w.ownsRow B' e sz v n' xs → (w.setCell ⟨bk, k * 5 + j, none⟩ u).ownsRow B' e sz v n' xs := fun h1 h2 => own_chg h2 hS fun k' hk' e => h1 (own_ty h2 ho hk' (by rw [hb, e]))
  refine ⟨h.below.setCell (p := ⟨bk, k * 5 + j, none⟩) hge u, bkey (by decide) h.hg, bkey (by decide) h.hr, bkey (by decide) h.hx, okey (by decide) h.own, ⟨h.mn.geC, h.mn.geT, bkey (by decide) h.mn.cb, bkey (by decide) h.mn.tb, fun i hi => ?_, fun j' hj' => ?_, h.mn.dist⟩⟩
  · by_cases e : i = i0
    · subst e
      rw [upd_same, hcv, List.length_set, hn]
      exact h1
    · rw [upd_ne _ _ _ _ e]
      exact own_chg (h.mn.os i hi) hS fun k' hk' e2 => hap i hi e (by rw [hk', e2])
  · obtain ⟨r1, r2, r3⟩ := h.mn.rows j' hj'
    exact ⟨r1, okey (by decide) r2, fun a b c ha hb => okey (by decide) (r3 a b c ha hb)⟩
/-- an operation of a code -/
theorem MBun.op5 (h : MBun W0 w g0 cs0 R X Cb T nc nt Wv ws cv ks tv th av) {i0 bk n c k : Nat} (hi0 : i0 < nc) (hcv : cv i0 = .slice (some ⟨bk, 0, none⟩) n c) (hn : (ks i0).length = n) (hap : ∀ i, i < nc → i ≠ i0 → (cv i).ownBlock ≠ some bk) (hk : k < n) (o : Op5) :
    MBun W0 (((((w.setCell ⟨bk, k * 5, none⟩ (.int .i64 o.k)).setCell ⟨bk, k * 5 + 1, none⟩ (.int .i64 o.a)).setCell ⟨bk, k * 5 + 2, none⟩ (.int .i64 o.b)).setCell ⟨bk, k * 5 + 3, none⟩ (.int .i64 o.c)).setCell ⟨bk, k * 5 + 4, none⟩ (.int .i64 o.d)) g0 cs0 R X Cb T nc nt Wv ws cv (upd ks i0 ((ks i0).set k o)) tv th av := by
  obtain ⟨x, hx⟩ : ∃ x, (ks i0)[k]? = some x := ⟨_, List.getElem?_eq_getElem (by omega)⟩
  have hu : ∀ (f : Nat → List Op5) (l1 l2 : List Op5), upd (upd f i0 l1) i0 l2 = upd f i0 l2 := by intro f l1 l2; funext j; unfold upd; split <;> rfl
  have hg : ∀ y : Op5, ((ks i0).set k y)[k]? = some y := fun y => List.getElem?_set_self (by omega)
  have h1 := h.setop (j := 0) (y := { x with k := o.k }) (u := .int .i64 o.k) hi0 hcv hn hap hx (by decide) rfl
  have h2 := h1.setop (k := k) (x := { x with k := o.k }) (j := 1) (y := { x with k := o.k, a := o.a }) (u := .int .i64 o.a) hi0 hcv (by rw [upd_same, List.length_set]; exact hn) hap (by rw [upd_same]; exact hg _) (by decide) rfl
  rw [upd_same, List.set_set, hu] at h2
  have h3 := h2.setop (k := k) (x := { x with k := o.k, a := o.a }) (j := 2) (y := { x with k := o.k, a := o.a, b := o.b }) (u := .int .i64 o.b) hi0 hcv (by rw [upd_same, List.length_set]; exact hn) hap (by rw [upd_same]; exact hg _) (by decide) rfl
  rw [upd_same, List.set_set, hu] at h3
  have h4 := h3.setop (k := k) (x := { x with k := o.k, a := o.a, b := o.b }) (j := 3) (y := { x with k := o.k, a := o.a, b := o.b, c := o.c }) (u := .int .i64 o.c) hi0 hcv (by rw [upd_same, List.length_set]; exact hn) hap (by rw [upd_same]; exact hg _) (by decide) rfl
  rw [upd_same, List.set_set, hu] at h4
  have h5 := h4.setop (k := k) (x := { x with k := o.k, a := o.a, b := o.b, c := o.c }) (j := 4) (y := o) (u := .int .i64 o.d) hi0 hcv (by rw [upd_same, List.length_set]; exact hn) hap (by rw [upd_same]; exact hg _) (by decide) rfl
  rw [upd_same, List.set_set, hu] at h5
  exact h5
/-- what a maker gives back: the result cell R is written last -/
structure MEnd (W0 w : World) (g0 : Nat) (cs0 : Array Value) (Cb T nc nt : Nat) (Wv : Value) (ws : List Int) (cv : Nat → Value) (ks : Nat → List Op5) (tv : Nat → Value) (th : Nat → List VCall) (av : Nat → List SV) : Prop where
  below : Below W0.heap.size W0 w
  hg : Blk w g0 34 cs0
  own : w.ownsRow W0.heap.size 3 1 Wv ws.length (ws.flatMap gI)
  mn : MN W0.heap.size w nc nt Cb T cv ks tv th av
theorem MBun.fin (h : MBun W0 w g0 cs0 R X Cb T nc nt Wv ws cv ks tv th av) (hg : g0 ≠ R) (hR : W0.heap.size ≤ R) (a b c : Value) :
    MEnd W0 (((w.setCell ⟨R, 0, none⟩ a).setCell ⟨R, 1, none⟩ b).setCell ⟨R, 2, none⟩ c) g0 cs0 Cb T nc nt Wv ws cv ks tv th av :=
  ⟨((h.below.setCell (p := ⟨R, 0, none⟩) hR a).setCell (p := ⟨R, 1, none⟩) hR b).setCell (p := ⟨R, 2, none⟩) hR c, (chg3 (R := R) w a b c).blk h.hg hg, own_res h.own h.hr (by decide) a b c, h.mn.res h.hr a b c⟩
theorem MEnd.step (h : MEnd W0 w g0 cs0 Cb T nc nt Wv ws cv ks tv th av) (hb : Below w.heap.size w w') : MEnd W0 w' g0 cs0 Cb T nc nt Wv ws cv ks tv th av :=
  ⟨bgo h.below hb, h.hg.below' hb, own_below h.own hb, h.mn.below hb⟩
end
theorem one_own2 {B : Nat} {w : World} (cc : Nat) : ∀ (k : Nat) (c : VCall) (a : SV), ([⟨cc, []⟩] : List VCall)[k]? = some c → ([⟨none, 0, 0⟩] : List SV)[k]? = some a → w.ownsRow B 3 1 a.v c.args.length (c.args.flatMap gI) := by
  intro k c a hc ha
  rw [List.getElem?_singleton] at hc ha
  split at hc
  · rename_i h; rw [if_pos h] at ha
    injection hc with hc; injection ha with ha
    subst hc ha
    exact own0 w B _ 1
  · cases hc
theorem madeOps (n : Nat) : madeCells #[.int .i64 0, .int .i64 0, .int .i64 0, .int .i64 0, .int .i64 0] (n * 5) = ((List.replicate n (⟨0, 0, 0, 0, 0⟩ : Op5)).flatMap gO).toArray := by
  have h2 : (List.replicate n (⟨0, 0, 0, 0, 0⟩ : Op5)).flatMap gO = List.replicate (n * 5) (.int .i64 0) := by
    induction n with
    | zero => rfl
    | succ n ih => rw [List.replicate_succ, List.flatMap_cons, ih, Nat.succ_mul, Nat.add_comm, ← List.replicate_append_replicate]; rfl
  rw [h2]
  apply Array.ext_getElem?
  intro i
  by_cases hi : i < n * 5
  · have h5 : i % 5 < 5 := Nat.mod_lt _ (by decide)
    have : ∀ k, k < 5 → (#[Value.int .i64 0, .int .i64 0, .int .i64 0, .int .i64 0, .int .i64 0] : Array Value)[k]! = .int .i64 0 := by
      intro k hk
      match k, hk with
      | 0, _ => rfl
      | 1, _ => rfl
      | 2, _ => rfl
      | 3, _ => rfl
      | 4, _ => rfl
    simp [madeCells, hi]
    have h9 := this (i % 5) h5
    simpa using h9
  · simp [madeCells, hi]
/-- a row of operations: make -/
theorem mkOps (w : World) (n : Nat) (hn : n ≤ 1000) : (Instr.makeSlice 28 (.int .i64 (n : Int)) (.int .i64 (n : Int))).run Tryd.prog w = .ok (.slice (some ⟨w.heap.size, 0, none⟩) n n) (w.alloc (.cells (((List.replicate n (⟨0, 0, 0, 0, 0⟩ : Op5)).flatMap gO).toArray) 71)) := by
  have hinfo : (Tryd.prog.info? 71).map (fun i => (i.zero, i.size, i.bytes)) = some (some (.agg #[.int .i64 0, .int .i64 0, .int .i64 0, .int .i64 0, .int .i64 0]), 5, 40) := by kernel_rfl
  obtain ⟨i, hi, hzz⟩ := Option.map_eq_some_iff.1 hinfo
  simp only [Prod.mk.injEq] at hzz
  obtain ⟨hz, hs, hb⟩ := hzz
  have hr := run_make (P := Tryd.prog) w 28 71 i _ Tryd.underlying28 hi hz .i64 .i64 n n (by omega) (Int.le_refl _) (by rw [hb]; omega) (by omega)
  rw [hs, Int.toNat_natCast] at hr
  rw [← madeOps]
  exact hr
end

section
open Go.RowKit
theorem keep16 {w w' : World} {p0 p1 p2 r0 r1 r2 : Addr} {u0 u1 u2 v0 v1 v2 : Value} (b : Below w.heap.size w w') (y0 : w.cell? p0 = some u0) (y1 : w.cell? p1 = some u1) (y2 : w.cell? p2 = some u2) (z0 : w.frozen? r0 = false) (z1 : w.frozen? r1 = false) (z2 : w.frozen? r2 = false) (z3 : w.cell? r0 = some v0) (z4 : w.cell? r1 = some v1) (z5 : w.cell? r2 = some v2) :
    w'.cell? p0 = some u0 ∧ w'.cell? p1 = some u1 ∧ w'.cell? p2 = some u2 ∧ w'.frozen? r0 = false ∧ w'.frozen? r1 = false ∧ w'.frozen? r2 = false ∧ w'.cell? r0 = some v0 ∧ w'.cell? r1 = some v1 ∧ w'.cell? r2 = some v2 :=
  ⟨cell_below b y0, cell_below b y1, cell_below b y2, frozen_below b z3 z0, frozen_below b z4 z1, frozen_below b z5 z2, cell_below b z3, cell_below b z4, cell_below b z5⟩
theorem keep16s {w : World} {X R : Nat} {u0 u1 u2 : Value} (hne : X ≠ R) (y0 : w.cell? ⟨X, 0, none⟩ = some u0) (y1 : w.cell? ⟨X, 1, none⟩ = some u1) (y2 : w.cell? ⟨X, 2, none⟩ = some u2) (z0 : w.frozen? ⟨R, 0, none⟩ = false) (z1 : w.frozen? ⟨R, 1, none⟩ = false) (z2 : w.frozen? ⟨R, 2, none⟩ = false) (a b c : Value) :
    (((w.setCell ⟨R, 0, none⟩ a).setCell ⟨R, 1, none⟩ b).setCell ⟨R, 2, none⟩ c).cell? ⟨X, 0, none⟩ = some u0 ∧ (((w.setCell ⟨R, 0, none⟩ a).setCell ⟨R, 1, none⟩ b).setCell ⟨R, 2, none⟩ c).cell? ⟨X, 1, none⟩ = some u1 ∧ (((w.setCell ⟨R, 0, none⟩ a).setCell ⟨R, 1, none⟩ b).setCell ⟨R, 2, none⟩ c).cell? ⟨X, 2, none⟩ = some u2 ∧
    (((w.setCell ⟨R, 0, none⟩ a).setCell ⟨R, 1, none⟩ b).setCell ⟨R, 2, none⟩ c).frozen? ⟨R, 0, none⟩ = false ∧ (((w.setCell ⟨R, 0, none⟩ a).setCell ⟨R, 1, none⟩ b).setCell ⟨R, 2, none⟩ c).frozen? ⟨R, 1, none⟩ = false ∧ (((w.setCell ⟨R, 0, none⟩ a).setCell ⟨R, 1, none⟩ b).setCell ⟨R, 2, none⟩ c).frozen? ⟨R, 2, none⟩ = false := by
  refine ⟨?_, ?_, ?_, ?_, ?_, ?_⟩
  · rw [World.cell?_setCell_far, World.cell?_setCell_far, World.cell?_setCell_far] <;> first | exact y0 | exact fun e => hne e.symm
  · rw [World.cell?_setCell_far, World.cell?_setCell_far, World.cell?_setCell_far] <;> first | exact y1 | exact fun e => hne e.symm
  · rw [World.cell?_setCell_far, World.cell?_setCell_far, World.cell?_setCell_far] <;> first | exact y2 | exact fun e => hne e.symm
  · simp only [World.frozen?_setCell]; exact z0
  · simp only [World.frozen?_setCell]; exact z1
  · simp only [World.frozen?_setCell]; exact z2
theorem sees4f {W w' : World} {p q r s : Addr} {u v x y : Value} (h : Below W.heap.size W w') (hp : W.cell? p = some u) (hq : W.cell? q = some v) (hf : W.frozen? q = false) (hr : W.cell? r = some x) (hs : W.cell? s = some y) : w'.cell? p = some u ∧ w'.frozen? q = false ∧ w'.cell? r = some x ∧ w'.cell? s = some y := ⟨cell_below h hp, frozen_below h hq hf, cell_below h hr, cell_below h hs⟩
end

section
open Go.RowKit
/-- what the maker gives -/
def SMachPost (w : World) (N : Nat) (kinds : List Bool) (calls : Nat) (e : Ending) (w' : World) : Prop :=
  ∃ (AW : Option Addr) (cW Cb T : Nat) (cv tv : Nat → Value) (av : Nat → List SV), e = .returned (.tuple #[.agg #[.slice AW (2 * N + 2) cW, .slice (some ⟨Cb, 0, none⟩) 2 2, .slice (some ⟨T, 0, none⟩) 3 3], .bool true]) ∧
    w'.ownsRow w.heap.size 3 1 (.slice AW (2 * N + 2) cW) (2 * N + 2) ((swords N).flatMap gI) ∧ MN w.heap.size w' 2 3 Cb T cv (fun i => [spushCode, spopCode].getD i []) tv (oths 100 kinds calls) av ∧ Below w.heap.size w w'
set_option maxHeartbeats 8000000 in
set_option maxRecDepth 100000 in
theorem stack_machine (N : Nat) (D : Option Addr) (r s calls : Nat) (kinds : List Bool) (w : World) (h1 : 1 ≤ N) (h8 : N ≤ 8) (hcl : calls ≤ 57) (hr : r ≤ 9223372036854775807) (hD : Sl w 1 D r (kinds.flatMap fun b : Bool => [Value.bool b])) (hT : STab w) :
    Calls Tryd.prog 31 #[.int .i64 (N : Int), .slice D r s, .int .i64 (calls : Int)] w fun e w' => SMachPost w N kinds calls e w' := by
  have HDD := hid hD; have HT := hid hT
  have HRL := hid (show kinds.length = r by have := hD.1; rw [flatMap_len _ 1 (fun _ => rfl), Nat.mul_one] at this; omega)
  have HWL := hid (show ((swords N) : List Int).length = 2 * N + 2 by exact swords_len ⟨h1, h8⟩)
  clear hD hT
  go_enter Tryd.func31, Tryd.ntmps31
  go_wp2_with fail
  have HG := hid (Blk.new w 34 #[.slice none 0 0, .slice none 0 0, .slice none 0 0])
  have B0 := hid (bnew (bnil w) (.cells #[.slice none 0 0, .slice none 0 0, .slice none 0 0] 34))
  generalize World.alloc w (.cells #[.slice none 0 0, .slice none 0 0, .slice none 0 0] 34) = w0 at *
  refine (stack_words N w0 h1 h8).mono ?_
  rintro e w1 ⟨v1, rfl, o1⟩
  obtain ⟨AW, cW, rfl, hcW, hcW2⟩ := o1.form
  rw [HWL.out] at hcW ⊢
  have OW1 := hid (show w1.ownsRow w0.heap.size 3 1 (.slice AW (2 * N + 2) cW) (2 * N + 2) ((swords N).flatMap gI) by have h := o1.own; rw [HWL.out] at h; exact h)
  have BW1 := hid o1.below
  clear o1
  go_wp2_with fail
  refine (stack_push N w1 h1 h8).mono ?_
  rintro e w2 ⟨v2, rfl, o2⟩
  obtain ⟨A1, c1, rfl, hc1, hc12⟩ := o2.form
  have O2 := hid o2
  clear o2
  rw [show (spushCode).length = 28 from rfl] at *
  go_wp2_with fail
  refine (stack_pop N w2 h1 h8).mono ?_
  rintro e w3 ⟨v3, rfl, o3⟩
  obtain ⟨A2, c2, rfl, hc2, hc22⟩ := o3.form
  have O3 := hid o3
  clear o3
  rw [show (spopCode).length = 29 from rfl] at *
  have B13 := hid (bgo (bgo BW1.out O2.out.below) O3.out.below)
  have B3 := hid (bgo B0.out B13.out)
  have HG3 := hid (HG.out.below' B13.out)
  have HW3 := hid (own_below (own_lower OW1.out B0.out.size) (bgo O2.out.below O3.out.below))
  have HC1 := hid (own_below (own_lower O2.out.own (bgo B0.out BW1.out).size) O3.out.below)
  have HC2 := hid (own_lower O3.out.own (bgo (bgo B0.out BW1.out) O2.out.below).size)
  clear HG B0 OW1 BW1 O2 O3 B13
  obtain ⟨Cb, hCb⟩ : ∃ Cb, w3.heap.size = Cb := ⟨_, rfl⟩
  have hmk := mkT3 (w3.alloc (.cells #[.slice A1 28 c1, .slice A2 29 c2] 28))
  have BE := bnew (bnew (bnew (bnil w3) (.cells #[.slice A1 28 c1, .slice A2 29 c2] 28)) (.cells #[.slice none 0 0, .slice none 0 0, .slice none 0 0] 50)) (.cells #[.slice AW (2 * N + 2) cW, .slice (some ⟨Cb, 0, none⟩) 2 2, .slice (some ⟨Cb + 1, 0, none⟩) 3 3] 34)
  have HCB := hid ((blkN w3 28 #[.slice A1 28 c1, .slice A2 29 c2] Cb hCb).below' (bnew (bnew (bnil _) (.cells #[.slice none 0 0, .slice none 0 0, .slice none 0 0] 50)) (.cells #[.slice AW (2 * N + 2) cW, .slice (some ⟨Cb, 0, none⟩) 2 2, .slice (some ⟨Cb + 1, 0, none⟩) 3 3] 34)))
  have HTB := hid ((blkN (w3.alloc (.cells #[.slice A1 28 c1, .slice A2 29 c2] 28)) 50 #[.slice none 0 0, .slice none 0 0, .slice none 0 0] (Cb + 1) (by rw [World.size_alloc, hCb])).below' (bnew (bnil _) (.cells #[.slice AW (2 * N + 2) cW, .slice (some ⟨Cb, 0, none⟩) 2 2, .slice (some ⟨Cb + 1, 0, none⟩) 3 3] 34)))
  have HXB := hid (blkN ((w3.alloc (.cells #[.slice A1 28 c1, .slice A2 29 c2] 28)).alloc (.cells #[.slice none 0 0, .slice none 0 0, .slice none 0 0] 50)) 34 #[.slice AW (2 * N + 2) cW, .slice (some ⟨Cb, 0, none⟩) 2 2, .slice (some ⟨Cb + 1, 0, none⟩) 3 3] (Cb + 2) (by rw [World.size_alloc, World.size_alloc, hCb]))
  have B3E := hid BE
  clear BE
  go_upto_region 7 with fail
  have hBC : w.heap.size ≤ Cb := by rw [← hCb]; exact B3.out.size
  have BW := hid (bgo B3.out B3E.out)
  have HGE := hid (HG3.out.below' B3E.out)
  have HWE := hid (own_below HW3.out B3E.out)
  have HC1E := hid (own_below HC1.out B3E.out)
  have HC2E := hid (own_below HC2.out B3E.out)
  clear hmk B3 HG3 HW3 HC1 HC2 B3E hCb
  generalize World.alloc (World.alloc (World.alloc w3 _) _) _ = wE at *
  obtain ⟨T, hT⟩ : ∃ T, Cb + 1 = T := ⟨_, rfl⟩
  rw [hT] at HTB HXB ⊢
  obtain ⟨X, hX⟩ : ∃ X, T + 1 = X := ⟨_, rfl⟩
  rw [hX]
  rw [show Cb + 2 = X by omega] at HXB
  have hTw : w.heap.size ≤ T := by omega
  have hXR : X ≠ w.heap.size := by omega
  have BU := hid (show MBun w _ w.heap.size nil3 w.heap.size X Cb T 2 3 (.slice AW (2 * N + 2) cW) (swords N) (fun i => [.slice A1 28 c1, .slice A2 29 c2].getD i undef) (fun i => [spushCode, spopCode].getD i []) _ (oths 100 kinds 0) (fun _ => []) from
    ⟨BW.out, HGE.out, HGE.out, HXB.out, by rw [HWL.out]; exact HWE.out, MN.start (v := fun _ => undef) hBC hTw HCB.out HTB.out (fun i hi => (by rcases (show i = 0 ∨ i = 1 by omega) with rfl | rfl; exact HC1E.out; exact HC2E.out))⟩)
  clear BW HGE HXB HWE HCB HTB HC1E HC2E hT hX hBC
  go_wp2_with fail
  go_loopw [15] (fun v wx => ∃ (k : Nat) (tv : Nat → Value) (av : Nat → List SV), k ≤ calls ∧ v = .int .i64 k ∧ Hid (MBun w wx w.heap.size nil3 w.heap.size X Cb T 2 3 (.slice AW (2 * N + 2) cW) (swords N) (fun i => [.slice A1 28 c1, .slice A2 29 c2].getD i undef) (fun i => [spushCode, spopCode].getD i []) tv (oths 100 kinds k) av)) (fun v _ => calls - (intOf v).toNat)
  case atStart => exact ⟨0, _, _, Nat.zero_le _, rfl, BU⟩
  case round =>
    clear BU
    obtain ⟨k, tv, av, hkc, rfl, HX⟩ := hrel
    by_cases hlt : k < calls
    · have i1 : (k : Int) < (calls : Int) := by omega
      obtain ⟨j, hj⟩ : ∃ j, k % 3 = j := ⟨_, rfl⟩
      have hj3 : j < 3 := by omega
      have ij3 : (j : Int) < 3 := by omega
      have em : (k : Int).tmod 3 = (j : Int) := by rw [Int.tmod_eq_emod_of_nonneg (by omega)]; omega
      have em2 : (k : Int) % 3 = (j : Int) := by omega
      have iw : IntKind.i64.wrap (j : Int) = (j : Int) := IntWalk.i64_in _ (by omega)
      have HJ := hid hj
      obtain ⟨ba, hba⟩ : ∃ ba, wr.heap.size = ba := ⟨_, rfl⟩
      have HBA := hid hba
      obtain ⟨bc, hbc⟩ : ∃ bc, ba + 1 = bc := ⟨_, rfl⟩
      have HBC2 := hid hbc
      have HBC := hid (show wr.heap.size ≤ bc by omega)
      have HBW := hid (show w.heap.size ≤ ba by rw [← hba]; exact HX.out.below.size)
      clear hj hba hbc
      have hcase : (k < r ∧ ∃ ad b, D = some ad ∧ wr.cell? (ad.add k) = some (.bool b) ∧ kinds.getD k false = b) ∨ (¬ k < r ∧ kinds.getD k false = false) := by
        by_cases h2 : k < r
        · obtain ⟨ad, e, hc⟩ := HDD.out.2 (by omega)
          obtain ⟨b, hb⟩ : ∃ b, kinds[k]? = some b := ⟨_, List.getElem?_eq_getElem (by rw [HRL.out]; exact h2)⟩
          have hh := flatMap_at (fun b : Bool => [Value.bool b]) 1 (fun _ => rfl) kinds k 0 b hb (by decide)
          rw [Nat.mul_one, Nat.add_zero] at hh
          exact .inl ⟨h2, ad, b, e, cell_below HX.out.below (hc k _ (by rw [hh]; rfl)), by rw [List.getD_eq_getElem?_getD, hb]; rfl⟩
        · exact .inr ⟨h2, by rw [List.getD_eq_getElem?_getD, List.getElem?_eq_none (by rw [HRL.out]; omega)]; rfl⟩
      rcases hcase with ⟨h2, ad, b, rfl, cx, hkb⟩ | ⟨h2, hkb⟩
      · have i2 : (k : Int) < (r : Int) := by omega
        have ltD := World.block_lt_of_cell? wr _ cx
        cases b with
        | true =>
          have HCC := hid (show ocall 100 kinds k = ⟨1, []⟩ by unfold ocall; rw [if_pos hkb])
          clear hkb
          go_upto_region 13 with fail
          clear cx ltD
          have B5 := hid (bnew (bnew (bnil wr) (.cells #[.int .i64 (100 + (k : Int))] 3)) (.cells #[.int .i64 1, .slice none 0 0] 49))
          have XC := hid (blkN (wr.alloc (.cells #[.int .i64 (100 + (k : Int))] 3)) 49 #[.int .i64 1, .slice none 0 0] bc (by rw [World.size_alloc, HBA.out, HBC2.out]))
          have OA := hid (show ((wr.alloc (.cells #[.int .i64 (100 + (k : Int))] 3)).alloc (.cells #[.int .i64 1, .slice none 0 0] 49)).ownsRow w.heap.size 3 1 (.slice none 0 0) 0 [] from own0 _ _ _ 1)
          have hba := HBA.out
          rw [hba]
          try rw [HBC2.out]
          clear hba
          generalize World.alloc (World.alloc wr (.cells #[.int .i64 (100 + (k : Int))] 3)) (.cells #[.int .i64 1, .slice none 0 0] 49) = w5 at *
          have HX5 := hid (HX.out.step B5.out)
          obtain ⟨Aj, cj, hAj, HR0⟩ := HX5.out.row hj3
          have hL20 : ((oths 100 kinds k) j).length ≤ 19 := by rw [oths_len _ _ k j hj3]; omega
          obtain ⟨L, hL⟩ : ∃ L, ((oths 100 kinds k) j).length = L := ⟨_, rfl⟩
          rw [hL] at hAj HR0 hL20
          obtain ⟨y, hy⟩ : ∃ y, ((oths 100 kinds k) j).zip (av j) ++ [((⟨1, []⟩ : VCall), (⟨none, 0, 0⟩ : SV))] = y := ⟨_, rfl⟩
          have HYE := hid hy
          have HYL := hid (show y.length = L + 1 by rw [← hy, List.length_append, HR0.len]; rfl)
          have HR := hid HR0
          have HAJ := hid hAj
          have c2x := HR.out.c2; have c3 := HR.out.c3; have f3 := HR.out.f3; have hcj := HR.out.hcj; have hcm := HR.out.hcm
          have c5 : w5.cell? ⟨bc, 0, none⟩ = some (.int .i64 1) := XC.out.cell 0
          have c6 : w5.cell? ⟨bc, 1, none⟩ = some (.slice none 0 0) := XC.out.cell 1
          unfold maxLen at hcm
          clear hy HR0 hAj hL
          have ltT := World.block_lt_of_cell? w5 _ c3
          have ltX := World.block_lt_of_cell? w5 _ c2x
          have ltC := World.block_lt_of_cell? w5 _ c5
          have hTbc : T ≠ bc := by have h1 := HX.out.mn.tb.lt; have h2 := HBC.out; omega
          have hXbc : X ≠ bc := by have h1 := HX.out.hx.lt; have h2 := HBC.out; omega
          have HAB := hid (show ∀ b, (Value.slice Aj L cj).ownBlock = some b → b ≠ bc from fun b hb => by
            have h1 := own_ge (HX.out.mn.rows j hj3).2.1 b (by rw [HAJ.out]; exact hb)
            have h2 := HBC.out
            omega)
          have HGW := hid (show ∀ wA w6, Below w5.heap.size w5 wA → wA.grownBy w6 (Value.slice Aj L cj).ownBlock → (w6.cell? ⟨X, 2, none⟩ = some (.slice (some ⟨T, 0, none⟩) 3 3) ∧ w6.frozen? ⟨T, j, none⟩ = false ∧ w6.cell? ⟨bc, 0, none⟩ = some (.int .i64 1) ∧ w6.cell? ⟨bc, 1, none⟩ = some (.slice none 0 0)) ∧ w6.cell? ⟨T, j, none⟩ = some (.slice Aj L cj) ∧
            ∀ v, ((w6.setCell ⟨T, j, none⟩ v).cell? ⟨X, 2, none⟩ = some (.slice (some ⟨T, 0, none⟩) 3 3) ∧ (w6.setCell ⟨T, j, none⟩ v).frozen? ⟨T, j, none⟩ = false ∧ (w6.setCell ⟨T, j, none⟩ v).cell? ⟨bc, 0, none⟩ = some (.int .i64 1) ∧ (w6.setCell ⟨T, j, none⟩ v).cell? ⟨bc, 1, none⟩ = some (.slice none 0 0)) from fun wA w6 hb hG => by
            have gC : Blk w6 bc 49 #[.int .i64 1, .slice none 0 0] := (Chg.of_grown hG (M := fun k => (Value.slice Aj L cj).ownBlock = some k) (fun k e => e)).blk (XC.out.below' hb) (fun e => HAB.out bc e rfl)
            have gC2 := fun v => gC.far (p := ⟨T, j, none⟩) (fun e => hTbc e.symm) v
            obtain ⟨⟨g1, g2⟩, g3, g4⟩ := HR.out.grow wA w6 hb hG
            exact ⟨⟨g1, g2, gC.cell 0, gC.cell 1⟩, g3, fun v => ⟨(g4 v).1, (g4 v).2, (gC2 v).cell 0, (gC2 v).cell 1⟩⟩)
          have HFR := hid (show ∀ (k' : Nat) (c : VCall) (a : SV), ([⟨1, []⟩] : List VCall)[k']? = some c → ([⟨none, 0, 0⟩] : List SV)[k']? = some a → ((w5.alloc (.cells #[.int .i64 1, .slice none 0 0] 49))).drew.ownsRow w.heap.size 3 1 a.v c.args.length (c.args.flatMap gI) from fun k' c a hc ha => by
            rw [List.getElem?_singleton] at hc ha
            split at hc
            · rename_i h; rw [if_pos h] at ha
              injection hc with hc; injection ha with ha
              subst hc ha
              exact own_below OA.out (bnew (bnil _) _).drew
            · cases hc)
          refine wp_region_held_drew (S := (fun w' => w'.cell? ⟨X, 2, none⟩ = some (.slice (some ⟨T, 0, none⟩) 3 3) ∧ w'.frozen? ⟨T, j, none⟩ = false ∧ w'.cell? ⟨bc, 0, none⟩ = some (.int .i64 1) ∧ w'.cell? ⟨bc, 1, none⟩ = some (.slice none 0 0))) (by kernel_rfl) ?_ (fun hHeld => ?_)
          · (try dsimp only); (first | assumption | exact ⟨c2x, f3, c5, c6⟩ | exact HZ.1 | exact HZ.2.2 _ | (refine sees4f ?_ c2x c3 f3 c5 c6; (repeat (first | exact bnil _ | refine Below.drew ?_ | refine bnew ?_ _))))
          refine wpAnyH_take (i := 0) (oi := ⟨some 79, _, _, _, _, _⟩) (v := ?_) rfl (by kernel_rfl) (by kernel_rfl) (by kernel_rfl) (fun _ _ _ h => h) (Or.inl ⟨by rfl, ?_⟩) (by assumption) ?_
          rotate_left
          · intro w hSw; (try dsimp only at hSw); go_simp <;> with_reducible rfl
          try simp only [Act.put, List.setIfInBounds_toArray, List.set_cons_zero, List.set_cons_succ]
          refine wpAnyH_take (i := 1) (oi := ⟨some 80, _, _, _, _, _⟩) (v := ?_) rfl (by kernel_rfl) (by kernel_rfl) (by kernel_rfl) (fun _ _ _ h => h) (Or.inl ⟨by rfl, ?_⟩) (by assumption) ?_
          rotate_left
          · intro w hSw; (try dsimp only at hSw); go_simp <;> with_reducible rfl
          try simp only [Act.put, List.setIfInBounds_toArray, List.set_cons_zero, List.set_cons_succ]
          refine wpAnyH_take (i := 2) (oi := ⟨some 81, _, _, _, _, _⟩) (v := ?_) rfl (by kernel_rfl) (by kernel_rfl) (by kernel_rfl) (fun _ _ _ h => h) (Or.inl ⟨by rfl, ?_⟩) (by assumption) ?_
          rotate_left
          · intro w hSw; (try dsimp only at hSw); go_simp <;> with_reducible rfl
          try simp only [Act.put, List.setIfInBounds_toArray, List.set_cons_zero, List.set_cons_succ]
          refine wpAnyH_take (i := 3) (oi := ⟨some 82, _, _, _, _, _⟩) (v := ?_) rfl (by kernel_rfl) (by kernel_rfl) (by kernel_rfl) (fun _ _ _ h => h) (Or.inl ⟨by rfl, ?_⟩) (by assumption) ?_
          rotate_left
          · intro w hSw; (try dsimp only at hSw); go_simp <;> with_reducible rfl
          try simp only [Act.put, List.setIfInBounds_toArray, List.set_cons_zero, List.set_cons_succ]
          refine wpAnyH_take (i := 4) (oi := ⟨some 83, _, _, _, _, _⟩) (v := ?_) rfl (by kernel_rfl) (by kernel_rfl) (by kernel_rfl) (fun _ _ _ h => h) (Or.inl ⟨by rfl, ?_⟩) (by assumption) ?_
          rotate_left
          · intro w hSw; (try dsimp only at hSw); go_simp <;> with_reducible rfl
          try simp only [Act.put, List.setIfInBounds_toArray, List.set_cons_zero, List.set_cons_succ]
          refine wpAnyH_take (i := 5) (oi := ⟨some 84, _, _, _, _, _⟩) (v := ?_) rfl (by kernel_rfl) (by kernel_rfl) (by kernel_rfl) (fun _ _ _ h => h) (Or.inl ⟨by rfl, ?_⟩) (by assumption) ?_
          rotate_left
          · intro w hSw; (try dsimp only at hSw); go_simp <;> with_reducible rfl
          try simp only [Act.put, List.setIfInBounds_toArray, List.set_cons_zero, List.set_cons_succ]
          refine wpAnyH_take (i := 6) (oi := ⟨some 85, _, _, _, _, _⟩) (v := ?_) rfl (by kernel_rfl) (by kernel_rfl) (by kernel_rfl) (fun _ _ _ h => h) (Or.inl ⟨by rfl, ?_⟩) (by assumption) ?_
          rotate_left
          · intro w hSw; (try dsimp only at hSw); go_simp <;> with_reducible rfl
          try simp only [Act.put, List.setIfInBounds_toArray, List.set_cons_zero, List.set_cons_succ]
          refine wpAnyH_take (i := 7) (oi := ⟨some 86, _, _, _, _, _⟩) (v := ?_) rfl (by kernel_rfl) (by kernel_rfl) (by kernel_rfl) (fun _ _ _ h => h) (Or.inl ⟨by rfl, ?_⟩) (by assumption) ?_
          rotate_left
          · intro w hSw; (try dsimp only at hSw); go_simp <;> with_reducible rfl
          try simp only [Act.put, List.setIfInBounds_toArray, List.set_cons_zero, List.set_cons_succ]
          refine wpAnyH_take (i := 8) (oi := ⟨some 87, _, _, _, _, _⟩) (v := ?_) rfl (by kernel_rfl) (by kernel_rfl) (by kernel_rfl) (fun _ _ _ h => h) (Or.inl ⟨by rfl, ?_⟩) (by assumption) ?_
          rotate_left
          · intro w hSw; (try dsimp only at hSw); go_simp <;> with_reducible rfl
          try simp only [Act.put, List.setIfInBounds_toArray, List.set_cons_zero, List.set_cons_succ]
          refine wpAnyH_take (i := 10) (oi := ⟨some 89, _, _, _, _, _⟩) (v := ?_) rfl (by kernel_rfl) (by kernel_rfl) (by kernel_rfl) (fun _ _ _ h => h) (Or.inl ⟨by rfl, ?_⟩) (by assumption) ?_
          rotate_left
          · intro w hSw; (try dsimp only at hSw); go_simp <;> with_reducible rfl
          try simp only [Act.put, List.setIfInBounds_toArray, List.set_cons_zero, List.set_cons_succ]
          refine wpAnyH_ready (rs := [9, 11]) (by kernel_rfl) (by simp) ?_
          refine AllReadyH.cons (o := ⟨some 88, _, _, _, _, _⟩) rfl (fun K hK => ?_) ?_
          go_simp
          refine hK.out _ _ ?_ (fun hHeld => ?_)
          · (try dsimp only); (first | assumption | exact ⟨c2x, f3, c5, c6⟩ | exact HZ.1 | exact HZ.2.2 _ | (refine sees4f ?_ c2x c3 f3 c5 c6; (repeat (first | exact bnil _ | refine Below.drew ?_ | refine bnew ?_ _))))
          clear hK K
          try simp only [Act.put, List.setIfInBounds_toArray, List.set_cons_zero, List.set_cons_succ]
          refine wpAnyH_ready (rs := [11]) (by kernel_rfl) (by simp) ?_
          refine AllReadyH.cons (o := ⟨some 90, _, _, _, _, _⟩) rfl (fun K hK => ?_) AllReadyH.nil
          go_simp
          refine hK.out _ _ ?_ (fun hHeld => ?_)
          · (try dsimp only); (first | assumption | exact ⟨c2x, f3, c5, c6⟩ | exact HZ.1 | exact HZ.2.2 _ | (refine sees4f ?_ c2x c3 f3 c5 c6; (repeat (first | exact bnil _ | refine Below.drew ?_ | refine bnew ?_ _))))
          clear hK K
          try simp only [Act.put, List.setIfInBounds_toArray, List.set_cons_zero, List.set_cons_succ]
          refine wpAnyH_ready (rs := [12]) (by kernel_rfl) (by simp) ?_
          refine AllReadyH.cons (o := ⟨some 91, _, _, _, _, _⟩) rfl (fun K hK => ?_) AllReadyH.nil
          (refine step_appC elmCN gS_one rfl (.tmp 88) (.tmp 90) rfl (.slice Aj L cj) (((oths 100 kinds k) j).zip (av j)) rfl (HR.out.row _ (bnew (bnil _) _).drew) [((⟨1, []⟩ : VCall), (⟨none, 0, 0⟩ : SV))] y HYE rfl (Sl.drew (Sl.fresh' _ #[_, _] 49 2 1 _ (by simp) rfl)) rfl (by rw [HYL.out]; simp only [maxLen]; omega) (by rw [HYL.out]; omega) (Nat.le_trans HR.out.size (bnew (bnil _) _).drew.size) ?_; intro E7 c7' w6 hc6 hc7 HN6 HG6 HO6; have HZ := HGW.out _ w6 (bnew (bnil _) _).drew HG6.out)
          refine hK.out _ _ ?_ (fun hHeld => ?_)
          · (try dsimp only); (first | assumption | exact ⟨c2x, f3, c5, c6⟩ | exact HZ.1 | exact HZ.2.2 _ | (refine sees4f ?_ c2x c3 f3 c5 c6; (repeat (first | exact bnil _ | refine Below.drew ?_ | refine bnew ?_ _))))
          clear hK K
          try simp only [Act.put, List.setIfInBounds_toArray, List.set_cons_zero, List.set_cons_succ]
          refine wpAnyH_take (i := 13) (oi := ⟨some 92, _, _, _, _, _⟩) (v := ?_) rfl (by kernel_rfl) (by kernel_rfl) (by kernel_rfl) (fun _ _ _ h => h) (Or.inl ⟨by rfl, ?_⟩) (by assumption) ?_
          rotate_left
          · intro w hSw; (try dsimp only at hSw); go_simp <;> with_reducible rfl
          try simp only [Act.put, List.setIfInBounds_toArray, List.set_cons_zero, List.set_cons_succ]
          refine wpAnyH_ready (rs := [14]) (by kernel_rfl) (by simp) ?_
          refine AllReadyH.cons (o := ⟨none, _, _, _, _, _⟩) rfl (fun K hK => ?_) AllReadyH.nil
          go_simp
          refine hK.out _ _ ?_ (fun hHeld => ?_)
          · (try dsimp only); (first | assumption | exact ⟨c2x, f3, c5, c6⟩ | exact HZ.1 | exact HZ.2.2 _ | (refine sees4f ?_ c2x c3 f3 c5 c6; (repeat (first | exact bnil _ | refine Below.drew ?_ | refine bnew ?_ _))))
          clear hK K
          try dsimp only [Act.put]
          refine wpAnyH_done (by kernel_rfl) ?_ _
          rotate_left
          refine AllReadyH.cons (o := ⟨some 90, _, _, _, _, _⟩) rfl (fun K hK => ?_) AllReadyH.nil
          go_simp
          refine hK.out _ _ ?_ (fun hHeld => ?_)
          · (try dsimp only); (first | assumption | exact ⟨c2x, f3, c5, c6⟩ | exact HZ.1 | exact HZ.2.2 _ | (refine sees4f ?_ c2x c3 f3 c5 c6; (repeat (first | exact bnil _ | refine Below.drew ?_ | refine bnew ?_ _))))
          clear hK K
          try simp only [Act.put, List.setIfInBounds_toArray, List.set_cons_zero, List.set_cons_succ]
          refine wpAnyH_ready (rs := [9]) (by kernel_rfl) (by simp) ?_
          refine AllReadyH.cons (o := ⟨some 88, _, _, _, _, _⟩) rfl (fun K hK => ?_) AllReadyH.nil
          go_simp
          refine hK.out _ _ ?_ (fun hHeld => ?_)
          · (try dsimp only); (first | assumption | exact ⟨c2x, f3, c5, c6⟩ | exact HZ.1 | exact HZ.2.2 _ | (refine sees4f ?_ c2x c3 f3 c5 c6; (repeat (first | exact bnil _ | refine Below.drew ?_ | refine bnew ?_ _))))
          clear hK K
          try simp only [Act.put, List.setIfInBounds_toArray, List.set_cons_zero, List.set_cons_succ]
          refine wpAnyH_ready (rs := [12]) (by kernel_rfl) (by simp) ?_
          refine AllReadyH.cons (o := ⟨some 91, _, _, _, _, _⟩) rfl (fun K hK => ?_) AllReadyH.nil
          (refine step_appC elmCN gS_one rfl (.tmp 88) (.tmp 90) rfl (.slice Aj L cj) (((oths 100 kinds k) j).zip (av j)) rfl (HR.out.row _ (bnew (bnil _) _).drew) [((⟨1, []⟩ : VCall), (⟨none, 0, 0⟩ : SV))] y HYE rfl (Sl.drew (Sl.fresh' _ #[_, _] 49 2 1 _ (by simp) rfl)) rfl (by rw [HYL.out]; simp only [maxLen]; omega) (by rw [HYL.out]; omega) (Nat.le_trans HR.out.size (bnew (bnil _) _).drew.size) ?_; intro E7 c7' w6 hc6 hc7 HN6 HG6 HO6; have HZ := HGW.out _ w6 (bnew (bnil _) _).drew HG6.out)
          refine hK.out _ _ ?_ (fun hHeld => ?_)
          · (try dsimp only); (first | assumption | exact ⟨c2x, f3, c5, c6⟩ | exact HZ.1 | exact HZ.2.2 _ | (refine sees4f ?_ c2x c3 f3 c5 c6; (repeat (first | exact bnil _ | refine Below.drew ?_ | refine bnew ?_ _))))
          clear hK K
          try simp only [Act.put, List.setIfInBounds_toArray, List.set_cons_zero, List.set_cons_succ]
          refine wpAnyH_take (i := 13) (oi := ⟨some 92, _, _, _, _, _⟩) (v := ?_) rfl (by kernel_rfl) (by kernel_rfl) (by kernel_rfl) (fun _ _ _ h => h) (Or.inl ⟨by rfl, ?_⟩) (by assumption) ?_
          rotate_left
          · intro w hSw; (try dsimp only at hSw); go_simp <;> with_reducible rfl
          try simp only [Act.put, List.setIfInBounds_toArray, List.set_cons_zero, List.set_cons_succ]
          refine wpAnyH_ready (rs := [14]) (by kernel_rfl) (by simp) ?_
          refine AllReadyH.cons (o := ⟨none, _, _, _, _, _⟩) rfl (fun K hK => ?_) AllReadyH.nil
          go_simp
          refine hK.out _ _ ?_ (fun hHeld => ?_)
          · (try dsimp only); (first | assumption | exact ⟨c2x, f3, c5, c6⟩ | exact HZ.1 | exact HZ.2.2 _ | (refine sees4f ?_ c2x c3 f3 c5 c6; (repeat (first | exact bnil _ | refine Below.drew ?_ | refine bnew ?_ _))))
          clear hK K
          try dsimp only [Act.put]
          refine wpAnyH_done (by kernel_rfl) ?_ _
          rotate_left
          all_goals
            have HF := hid (HX5.out.app hj3 [⟨1, []⟩] [⟨none, 0, 0⟩] (bnew (bnil _) _).drew rfl HFR.out HYE.out (by rw [HAJ.out]; exact HG6.out) (by rw [HAJ.out]; exact HO6.out) HN6.out)
            clear HZ HG6 HO6 HN6
            go_wp2
            go_roundw
            case rel => exact ⟨k + 1, _, _, by omega, by go_num, hid (by have h1 := HF.out; rw [← HCC.out, oths_upd _ _ HJ.out] at h1; exact h1)⟩
            case measure => simp [intOf]; omega
        | false =>
          have HCC := hid (show ocall 100 kinds k = ⟨0, [100 + (k : Int)]⟩ by unfold ocall; rw [if_neg (by rw [hkb]; decide)]; simp)
          clear hkb
          go_upto_region 13 with fail
          clear cx ltD
          have B5 := hid (bnew (bnew (bnil wr) (.cells #[.int .i64 (100 + (k : Int))] 3)) (.cells #[.int .i64 0, .slice (some ⟨ba, 0, none⟩) 1 1] 49))
          have XC := hid (blkN (wr.alloc (.cells #[.int .i64 (100 + (k : Int))] 3)) 49 #[.int .i64 0, .slice (some ⟨ba, 0, none⟩) 1 1] bc (by rw [World.size_alloc, HBA.out, HBC2.out]))
          have OA := hid (show ((wr.alloc (.cells #[.int .i64 (100 + (k : Int))] 3)).alloc (.cells #[.int .i64 0, .slice (some ⟨ba, 0, none⟩) 1 1] 49)).ownsRow w.heap.size 3 1 (.slice (some ⟨ba, 0, none⟩) 1 1) 1 ([100 + (k : Int)].flatMap gI) from own_below ⟨rfl, .inr ⟨ba, 1, #[.int .i64 (100 + (k : Int))], rfl, HBW.out, blkN wr _ _ ba HBA.out, Nat.le_refl _, by simp [maxLen], rfl, rfl⟩⟩ (bnew (bnil _) _))
          have hba := HBA.out
          rw [hba]
          try rw [HBC2.out]
          clear hba
          generalize World.alloc (World.alloc wr (.cells #[.int .i64 (100 + (k : Int))] 3)) (.cells #[.int .i64 0, .slice (some ⟨ba, 0, none⟩) 1 1] 49) = w5 at *
          have HX5 := hid (HX.out.step B5.out)
          obtain ⟨Aj, cj, hAj, HR0⟩ := HX5.out.row hj3
          have hL20 : ((oths 100 kinds k) j).length ≤ 19 := by rw [oths_len _ _ k j hj3]; omega
          obtain ⟨L, hL⟩ : ∃ L, ((oths 100 kinds k) j).length = L := ⟨_, rfl⟩
          rw [hL] at hAj HR0 hL20
          obtain ⟨y, hy⟩ : ∃ y, ((oths 100 kinds k) j).zip (av j) ++ [((⟨0, [100 + (k : Int)]⟩ : VCall), (⟨(some ⟨ba, 0, none⟩), 1, 1⟩ : SV))] = y := ⟨_, rfl⟩
          have HYE := hid hy
          have HYL := hid (show y.length = L + 1 by rw [← hy, List.length_append, HR0.len]; rfl)
          have HR := hid HR0
          have HAJ := hid hAj
          have c2x := HR.out.c2; have c3 := HR.out.c3; have f3 := HR.out.f3; have hcj := HR.out.hcj; have hcm := HR.out.hcm
          have c5 : w5.cell? ⟨bc, 0, none⟩ = some (.int .i64 0) := XC.out.cell 0
          have c6 : w5.cell? ⟨bc, 1, none⟩ = some (.slice (some ⟨ba, 0, none⟩) 1 1) := XC.out.cell 1
          unfold maxLen at hcm
          clear hy HR0 hAj hL
          have ltT := World.block_lt_of_cell? w5 _ c3
          have ltX := World.block_lt_of_cell? w5 _ c2x
          have ltC := World.block_lt_of_cell? w5 _ c5
          have hTbc : T ≠ bc := by have h1 := HX.out.mn.tb.lt; have h2 := HBC.out; omega
          have hXbc : X ≠ bc := by have h1 := HX.out.hx.lt; have h2 := HBC.out; omega
          have HAB := hid (show ∀ b, (Value.slice Aj L cj).ownBlock = some b → b ≠ bc from fun b hb => by
            have h1 := own_ge (HX.out.mn.rows j hj3).2.1 b (by rw [HAJ.out]; exact hb)
            have h2 := HBC.out
            omega)
          have HGW := hid (show ∀ wA w6, Below w5.heap.size w5 wA → wA.grownBy w6 (Value.slice Aj L cj).ownBlock → (w6.cell? ⟨X, 2, none⟩ = some (.slice (some ⟨T, 0, none⟩) 3 3) ∧ w6.frozen? ⟨T, j, none⟩ = false ∧ w6.cell? ⟨bc, 0, none⟩ = some (.int .i64 0) ∧ w6.cell? ⟨bc, 1, none⟩ = some (.slice (some ⟨ba, 0, none⟩) 1 1)) ∧ w6.cell? ⟨T, j, none⟩ = some (.slice Aj L cj) ∧
            ∀ v, ((w6.setCell ⟨T, j, none⟩ v).cell? ⟨X, 2, none⟩ = some (.slice (some ⟨T, 0, none⟩) 3 3) ∧ (w6.setCell ⟨T, j, none⟩ v).frozen? ⟨T, j, none⟩ = false ∧ (w6.setCell ⟨T, j, none⟩ v).cell? ⟨bc, 0, none⟩ = some (.int .i64 0) ∧ (w6.setCell ⟨T, j, none⟩ v).cell? ⟨bc, 1, none⟩ = some (.slice (some ⟨ba, 0, none⟩) 1 1)) from fun wA w6 hb hG => by
            have gC : Blk w6 bc 49 #[.int .i64 0, .slice (some ⟨ba, 0, none⟩) 1 1] := (Chg.of_grown hG (M := fun k => (Value.slice Aj L cj).ownBlock = some k) (fun k e => e)).blk (XC.out.below' hb) (fun e => HAB.out bc e rfl)
            have gC2 := fun v => gC.far (p := ⟨T, j, none⟩) (fun e => hTbc e.symm) v
            obtain ⟨⟨g1, g2⟩, g3, g4⟩ := HR.out.grow wA w6 hb hG
            exact ⟨⟨g1, g2, gC.cell 0, gC.cell 1⟩, g3, fun v => ⟨(g4 v).1, (g4 v).2, (gC2 v).cell 0, (gC2 v).cell 1⟩⟩)
          have HFR := hid (show ∀ (k' : Nat) (c : VCall) (a : SV), ([⟨0, [100 + (k : Int)]⟩] : List VCall)[k']? = some c → ([⟨(some ⟨ba, 0, none⟩), 1, 1⟩] : List SV)[k']? = some a → ((w5.alloc (.cells #[.int .i64 0, .slice (some ⟨ba, 0, none⟩) 1 1] 49))).drew.ownsRow w.heap.size 3 1 a.v c.args.length (c.args.flatMap gI) from fun k' c a hc ha => by
            rw [List.getElem?_singleton] at hc ha
            split at hc
            · rename_i h; rw [if_pos h] at ha
              injection hc with hc; injection ha with ha
              subst hc ha
              exact own_below OA.out (bnew (bnil _) _).drew
            · cases hc)
          refine wp_region_held_drew (S := (fun w' => w'.cell? ⟨X, 2, none⟩ = some (.slice (some ⟨T, 0, none⟩) 3 3) ∧ w'.frozen? ⟨T, j, none⟩ = false ∧ w'.cell? ⟨bc, 0, none⟩ = some (.int .i64 0) ∧ w'.cell? ⟨bc, 1, none⟩ = some (.slice (some ⟨ba, 0, none⟩) 1 1))) (by kernel_rfl) ?_ (fun hHeld => ?_)
          · (try dsimp only); (first | assumption | exact ⟨c2x, f3, c5, c6⟩ | exact HZ.1 | exact HZ.2.2 _ | (refine sees4f ?_ c2x c3 f3 c5 c6; (repeat (first | exact bnil _ | refine Below.drew ?_ | refine bnew ?_ _))))
          refine wpAnyH_take (i := 0) (oi := ⟨some 79, _, _, _, _, _⟩) (v := ?_) rfl (by kernel_rfl) (by kernel_rfl) (by kernel_rfl) (fun _ _ _ h => h) (Or.inl ⟨by rfl, ?_⟩) (by assumption) ?_
          rotate_left
          · intro w hSw; (try dsimp only at hSw); go_simp <;> with_reducible rfl
          try simp only [Act.put, List.setIfInBounds_toArray, List.set_cons_zero, List.set_cons_succ]
          refine wpAnyH_take (i := 1) (oi := ⟨some 80, _, _, _, _, _⟩) (v := ?_) rfl (by kernel_rfl) (by kernel_rfl) (by kernel_rfl) (fun _ _ _ h => h) (Or.inl ⟨by rfl, ?_⟩) (by assumption) ?_
          rotate_left
          · intro w hSw; (try dsimp only at hSw); go_simp <;> with_reducible rfl
          try simp only [Act.put, List.setIfInBounds_toArray, List.set_cons_zero, List.set_cons_succ]
          refine wpAnyH_take (i := 2) (oi := ⟨some 81, _, _, _, _, _⟩) (v := ?_) rfl (by kernel_rfl) (by kernel_rfl) (by kernel_rfl) (fun _ _ _ h => h) (Or.inl ⟨by rfl, ?_⟩) (by assumption) ?_
          rotate_left
          · intro w hSw; (try dsimp only at hSw); go_simp <;> with_reducible rfl
          try simp only [Act.put, List.setIfInBounds_toArray, List.set_cons_zero, List.set_cons_succ]
          refine wpAnyH_take (i := 3) (oi := ⟨some 82, _, _, _, _, _⟩) (v := ?_) rfl (by kernel_rfl) (by kernel_rfl) (by kernel_rfl) (fun _ _ _ h => h) (Or.inl ⟨by rfl, ?_⟩) (by assumption) ?_
          rotate_left
          · intro w hSw; (try dsimp only at hSw); go_simp <;> with_reducible rfl
          try simp only [Act.put, List.setIfInBounds_toArray, List.set_cons_zero, List.set_cons_succ]
          refine wpAnyH_take (i := 4) (oi := ⟨some 83, _, _, _, _, _⟩) (v := ?_) rfl (by kernel_rfl) (by kernel_rfl) (by kernel_rfl) (fun _ _ _ h => h) (Or.inl ⟨by rfl, ?_⟩) (by assumption) ?_
          rotate_left
          · intro w hSw; (try dsimp only at hSw); go_simp <;> with_reducible rfl
          try simp only [Act.put, List.setIfInBounds_toArray, List.set_cons_zero, List.set_cons_succ]
          refine wpAnyH_take (i := 5) (oi := ⟨some 84, _, _, _, _, _⟩) (v := ?_) rfl (by kernel_rfl) (by kernel_rfl) (by kernel_rfl) (fun _ _ _ h => h) (Or.inl ⟨by rfl, ?_⟩) (by assumption) ?_
          rotate_left
          · intro w hSw; (try dsimp only at hSw); go_simp <;> with_reducible rfl
          try simp only [Act.put, List.setIfInBounds_toArray, List.set_cons_zero, List.set_cons_succ]
          refine wpAnyH_take (i := 6) (oi := ⟨some 85, _, _, _, _, _⟩) (v := ?_) rfl (by kernel_rfl) (by kernel_rfl) (by kernel_rfl) (fun _ _ _ h => h) (Or.inl ⟨by rfl, ?_⟩) (by assumption) ?_
          rotate_left
          · intro w hSw; (try dsimp only at hSw); go_simp <;> with_reducible rfl
          try simp only [Act.put, List.setIfInBounds_toArray, List.set_cons_zero, List.set_cons_succ]
          refine wpAnyH_take (i := 7) (oi := ⟨some 86, _, _, _, _, _⟩) (v := ?_) rfl (by kernel_rfl) (by kernel_rfl) (by kernel_rfl) (fun _ _ _ h => h) (Or.inl ⟨by rfl, ?_⟩) (by assumption) ?_
          rotate_left
          · intro w hSw; (try dsimp only at hSw); go_simp <;> with_reducible rfl
          try simp only [Act.put, List.setIfInBounds_toArray, List.set_cons_zero, List.set_cons_succ]
          refine wpAnyH_take (i := 8) (oi := ⟨some 87, _, _, _, _, _⟩) (v := ?_) rfl (by kernel_rfl) (by kernel_rfl) (by kernel_rfl) (fun _ _ _ h => h) (Or.inl ⟨by rfl, ?_⟩) (by assumption) ?_
          rotate_left
          · intro w hSw; (try dsimp only at hSw); go_simp <;> with_reducible rfl
          try simp only [Act.put, List.setIfInBounds_toArray, List.set_cons_zero, List.set_cons_succ]
          refine wpAnyH_take (i := 10) (oi := ⟨some 89, _, _, _, _, _⟩) (v := ?_) rfl (by kernel_rfl) (by kernel_rfl) (by kernel_rfl) (fun _ _ _ h => h) (Or.inl ⟨by rfl, ?_⟩) (by assumption) ?_
          rotate_left
          · intro w hSw; (try dsimp only at hSw); go_simp <;> with_reducible rfl
          try simp only [Act.put, List.setIfInBounds_toArray, List.set_cons_zero, List.set_cons_succ]
          refine wpAnyH_ready (rs := [9, 11]) (by kernel_rfl) (by simp) ?_
          refine AllReadyH.cons (o := ⟨some 88, _, _, _, _, _⟩) rfl (fun K hK => ?_) ?_
          go_simp
          refine hK.out _ _ ?_ (fun hHeld => ?_)
          · (try dsimp only); (first | assumption | exact ⟨c2x, f3, c5, c6⟩ | exact HZ.1 | exact HZ.2.2 _ | (refine sees4f ?_ c2x c3 f3 c5 c6; (repeat (first | exact bnil _ | refine Below.drew ?_ | refine bnew ?_ _))))
          clear hK K
          try simp only [Act.put, List.setIfInBounds_toArray, List.set_cons_zero, List.set_cons_succ]
          refine wpAnyH_ready (rs := [11]) (by kernel_rfl) (by simp) ?_
          refine AllReadyH.cons (o := ⟨some 90, _, _, _, _, _⟩) rfl (fun K hK => ?_) AllReadyH.nil
          go_simp
          refine hK.out _ _ ?_ (fun hHeld => ?_)
          · (try dsimp only); (first | assumption | exact ⟨c2x, f3, c5, c6⟩ | exact HZ.1 | exact HZ.2.2 _ | (refine sees4f ?_ c2x c3 f3 c5 c6; (repeat (first | exact bnil _ | refine Below.drew ?_ | refine bnew ?_ _))))
          clear hK K
          try simp only [Act.put, List.setIfInBounds_toArray, List.set_cons_zero, List.set_cons_succ]
          refine wpAnyH_ready (rs := [12]) (by kernel_rfl) (by simp) ?_
          refine AllReadyH.cons (o := ⟨some 91, _, _, _, _, _⟩) rfl (fun K hK => ?_) AllReadyH.nil
          (refine step_appC elmCN gS_one rfl (.tmp 88) (.tmp 90) rfl (.slice Aj L cj) (((oths 100 kinds k) j).zip (av j)) rfl (HR.out.row _ (bnew (bnil _) _).drew) [((⟨0, [100 + (k : Int)]⟩ : VCall), (⟨(some ⟨ba, 0, none⟩), 1, 1⟩ : SV))] y HYE rfl (Sl.drew (Sl.fresh' _ #[_, _] 49 2 1 _ (by simp) rfl)) rfl (by rw [HYL.out]; simp only [maxLen]; omega) (by rw [HYL.out]; omega) (Nat.le_trans HR.out.size (bnew (bnil _) _).drew.size) ?_; intro E7 c7' w6 hc6 hc7 HN6 HG6 HO6; have HZ := HGW.out _ w6 (bnew (bnil _) _).drew HG6.out)
          refine hK.out _ _ ?_ (fun hHeld => ?_)
          · (try dsimp only); (first | assumption | exact ⟨c2x, f3, c5, c6⟩ | exact HZ.1 | exact HZ.2.2 _ | (refine sees4f ?_ c2x c3 f3 c5 c6; (repeat (first | exact bnil _ | refine Below.drew ?_ | refine bnew ?_ _))))
          clear hK K
          try simp only [Act.put, List.setIfInBounds_toArray, List.set_cons_zero, List.set_cons_succ]
          refine wpAnyH_take (i := 13) (oi := ⟨some 92, _, _, _, _, _⟩) (v := ?_) rfl (by kernel_rfl) (by kernel_rfl) (by kernel_rfl) (fun _ _ _ h => h) (Or.inl ⟨by rfl, ?_⟩) (by assumption) ?_
          rotate_left
          · intro w hSw; (try dsimp only at hSw); go_simp <;> with_reducible rfl
          try simp only [Act.put, List.setIfInBounds_toArray, List.set_cons_zero, List.set_cons_succ]
          refine wpAnyH_ready (rs := [14]) (by kernel_rfl) (by simp) ?_
          refine AllReadyH.cons (o := ⟨none, _, _, _, _, _⟩) rfl (fun K hK => ?_) AllReadyH.nil
          go_simp
          refine hK.out _ _ ?_ (fun hHeld => ?_)
          · (try dsimp only); (first | assumption | exact ⟨c2x, f3, c5, c6⟩ | exact HZ.1 | exact HZ.2.2 _ | (refine sees4f ?_ c2x c3 f3 c5 c6; (repeat (first | exact bnil _ | refine Below.drew ?_ | refine bnew ?_ _))))
          clear hK K
          try dsimp only [Act.put]
          refine wpAnyH_done (by kernel_rfl) ?_ _
          rotate_left
          refine AllReadyH.cons (o := ⟨some 90, _, _, _, _, _⟩) rfl (fun K hK => ?_) AllReadyH.nil
          go_simp
          refine hK.out _ _ ?_ (fun hHeld => ?_)
          · (try dsimp only); (first | assumption | exact ⟨c2x, f3, c5, c6⟩ | exact HZ.1 | exact HZ.2.2 _ | (refine sees4f ?_ c2x c3 f3 c5 c6; (repeat (first | exact bnil _ | refine Below.drew ?_ | refine bnew ?_ _))))
          clear hK K
          try simp only [Act.put, List.setIfInBounds_toArray, List.set_cons_zero, List.set_cons_succ]
          refine wpAnyH_ready (rs := [9]) (by kernel_rfl) (by simp) ?_
          refine AllReadyH.cons (o := ⟨some 88, _, _, _, _, _⟩) rfl (fun K hK => ?_) AllReadyH.nil
          go_simp
          refine hK.out _ _ ?_ (fun hHeld => ?_)
          · (try dsimp only); (first | assumption | exact ⟨c2x, f3, c5, c6⟩ | exact HZ.1 | exact HZ.2.2 _ | (refine sees4f ?_ c2x c3 f3 c5 c6; (repeat (first | exact bnil _ | refine Below.drew ?_ | refine bnew ?_ _))))
          clear hK K
          try simp only [Act.put, List.setIfInBounds_toArray, List.set_cons_zero, List.set_cons_succ]
          refine wpAnyH_ready (rs := [12]) (by kernel_rfl) (by simp) ?_
          refine AllReadyH.cons (o := ⟨some 91, _, _, _, _, _⟩) rfl (fun K hK => ?_) AllReadyH.nil
          (refine step_appC elmCN gS_one rfl (.tmp 88) (.tmp 90) rfl (.slice Aj L cj) (((oths 100 kinds k) j).zip (av j)) rfl (HR.out.row _ (bnew (bnil _) _).drew) [((⟨0, [100 + (k : Int)]⟩ : VCall), (⟨(some ⟨ba, 0, none⟩), 1, 1⟩ : SV))] y HYE rfl (Sl.drew (Sl.fresh' _ #[_, _] 49 2 1 _ (by simp) rfl)) rfl (by rw [HYL.out]; simp only [maxLen]; omega) (by rw [HYL.out]; omega) (Nat.le_trans HR.out.size (bnew (bnil _) _).drew.size) ?_; intro E7 c7' w6 hc6 hc7 HN6 HG6 HO6; have HZ := HGW.out _ w6 (bnew (bnil _) _).drew HG6.out)
          refine hK.out _ _ ?_ (fun hHeld => ?_)
          · (try dsimp only); (first | assumption | exact ⟨c2x, f3, c5, c6⟩ | exact HZ.1 | exact HZ.2.2 _ | (refine sees4f ?_ c2x c3 f3 c5 c6; (repeat (first | exact bnil _ | refine Below.drew ?_ | refine bnew ?_ _))))
          clear hK K
          try simp only [Act.put, List.setIfInBounds_toArray, List.set_cons_zero, List.set_cons_succ]
          refine wpAnyH_take (i := 13) (oi := ⟨some 92, _, _, _, _, _⟩) (v := ?_) rfl (by kernel_rfl) (by kernel_rfl) (by kernel_rfl) (fun _ _ _ h => h) (Or.inl ⟨by rfl, ?_⟩) (by assumption) ?_
          rotate_left
          · intro w hSw; (try dsimp only at hSw); go_simp <;> with_reducible rfl
          try simp only [Act.put, List.setIfInBounds_toArray, List.set_cons_zero, List.set_cons_succ]
          refine wpAnyH_ready (rs := [14]) (by kernel_rfl) (by simp) ?_
          refine AllReadyH.cons (o := ⟨none, _, _, _, _, _⟩) rfl (fun K hK => ?_) AllReadyH.nil
          go_simp
          refine hK.out _ _ ?_ (fun hHeld => ?_)
          · (try dsimp only); (first | assumption | exact ⟨c2x, f3, c5, c6⟩ | exact HZ.1 | exact HZ.2.2 _ | (refine sees4f ?_ c2x c3 f3 c5 c6; (repeat (first | exact bnil _ | refine Below.drew ?_ | refine bnew ?_ _))))
          clear hK K
          try dsimp only [Act.put]
          refine wpAnyH_done (by kernel_rfl) ?_ _
          rotate_left
          all_goals
            have HF := hid (HX5.out.app hj3 [⟨0, [100 + (k : Int)]⟩] [⟨(some ⟨ba, 0, none⟩), 1, 1⟩] (bnew (bnil _) _).drew rfl HFR.out HYE.out (by rw [HAJ.out]; exact HG6.out) (by rw [HAJ.out]; exact HO6.out) HN6.out)
            clear HZ HG6 HO6 HN6
            go_wp2
            go_roundw
            case rel => exact ⟨k + 1, _, _, by omega, by go_num, hid (by have h1 := HF.out; rw [← HCC.out, oths_upd _ _ HJ.out] at h1; exact h1)⟩
            case measure => simp [intOf]; omega
      · have i2 : ¬ (k : Int) < (r : Int) := by omega
        have HCC := hid (show ocall 100 kinds k = ⟨0, [100 + (k : Int)]⟩ by unfold ocall; rw [if_neg (by rw [hkb]; decide)]; simp)
        clear hkb
        go_upto_region 13 with fail
        have B5 := hid (bnew (bnew (bnil wr) (.cells #[.int .i64 (100 + (k : Int))] 3)) (.cells #[.int .i64 0, .slice (some ⟨ba, 0, none⟩) 1 1] 49))
        have XC := hid (blkN (wr.alloc (.cells #[.int .i64 (100 + (k : Int))] 3)) 49 #[.int .i64 0, .slice (some ⟨ba, 0, none⟩) 1 1] bc (by rw [World.size_alloc, HBA.out, HBC2.out]))
        have OA := hid (show ((wr.alloc (.cells #[.int .i64 (100 + (k : Int))] 3)).alloc (.cells #[.int .i64 0, .slice (some ⟨ba, 0, none⟩) 1 1] 49)).ownsRow w.heap.size 3 1 (.slice (some ⟨ba, 0, none⟩) 1 1) 1 ([100 + (k : Int)].flatMap gI) from own_below ⟨rfl, .inr ⟨ba, 1, #[.int .i64 (100 + (k : Int))], rfl, HBW.out, blkN wr _ _ ba HBA.out, Nat.le_refl _, by simp [maxLen], rfl, rfl⟩⟩ (bnew (bnil _) _))
        have hba := HBA.out
        rw [hba]
        try rw [HBC2.out]
        clear hba
        generalize World.alloc (World.alloc wr (.cells #[.int .i64 (100 + (k : Int))] 3)) (.cells #[.int .i64 0, .slice (some ⟨ba, 0, none⟩) 1 1] 49) = w5 at *
        have HX5 := hid (HX.out.step B5.out)
        obtain ⟨Aj, cj, hAj, HR0⟩ := HX5.out.row hj3
        have hL20 : ((oths 100 kinds k) j).length ≤ 19 := by rw [oths_len _ _ k j hj3]; omega
        obtain ⟨L, hL⟩ : ∃ L, ((oths 100 kinds k) j).length = L := ⟨_, rfl⟩
        rw [hL] at hAj HR0 hL20
        obtain ⟨y, hy⟩ : ∃ y, ((oths 100 kinds k) j).zip (av j) ++ [((⟨0, [100 + (k : Int)]⟩ : VCall), (⟨(some ⟨ba, 0, none⟩), 1, 1⟩ : SV))] = y := ⟨_, rfl⟩
        have HYE := hid hy
        have HYL := hid (show y.length = L + 1 by rw [← hy, List.length_append, HR0.len]; rfl)
        have HR := hid HR0
        have HAJ := hid hAj
        have c2x := HR.out.c2; have c3 := HR.out.c3; have f3 := HR.out.f3; have hcj := HR.out.hcj; have hcm := HR.out.hcm
        have c5 : w5.cell? ⟨bc, 0, none⟩ = some (.int .i64 0) := XC.out.cell 0
        have c6 : w5.cell? ⟨bc, 1, none⟩ = some (.slice (some ⟨ba, 0, none⟩) 1 1) := XC.out.cell 1
        unfold maxLen at hcm
        clear hy HR0 hAj hL
        have ltT := World.block_lt_of_cell? w5 _ c3
        have ltX := World.block_lt_of_cell? w5 _ c2x
        have ltC := World.block_lt_of_cell? w5 _ c5
        have hTbc : T ≠ bc := by have h1 := HX.out.mn.tb.lt; have h2 := HBC.out; omega
        have hXbc : X ≠ bc := by have h1 := HX.out.hx.lt; have h2 := HBC.out; omega
        have HAB := hid (show ∀ b, (Value.slice Aj L cj).ownBlock = some b → b ≠ bc from fun b hb => by
          have h1 := own_ge (HX.out.mn.rows j hj3).2.1 b (by rw [HAJ.out]; exact hb)
          have h2 := HBC.out
          omega)
        have HGW := hid (show ∀ wA w6, Below w5.heap.size w5 wA → wA.grownBy w6 (Value.slice Aj L cj).ownBlock → (w6.cell? ⟨X, 2, none⟩ = some (.slice (some ⟨T, 0, none⟩) 3 3) ∧ w6.frozen? ⟨T, j, none⟩ = false ∧ w6.cell? ⟨bc, 0, none⟩ = some (.int .i64 0) ∧ w6.cell? ⟨bc, 1, none⟩ = some (.slice (some ⟨ba, 0, none⟩) 1 1)) ∧ w6.cell? ⟨T, j, none⟩ = some (.slice Aj L cj) ∧
          ∀ v, ((w6.setCell ⟨T, j, none⟩ v).cell? ⟨X, 2, none⟩ = some (.slice (some ⟨T, 0, none⟩) 3 3) ∧ (w6.setCell ⟨T, j, none⟩ v).frozen? ⟨T, j, none⟩ = false ∧ (w6.setCell ⟨T, j, none⟩ v).cell? ⟨bc, 0, none⟩ = some (.int .i64 0) ∧ (w6.setCell ⟨T, j, none⟩ v).cell? ⟨bc, 1, none⟩ = some (.slice (some ⟨ba, 0, none⟩) 1 1)) from fun wA w6 hb hG => by
          have gC : Blk w6 bc 49 #[.int .i64 0, .slice (some ⟨ba, 0, none⟩) 1 1] := (Chg.of_grown hG (M := fun k => (Value.slice Aj L cj).ownBlock = some k) (fun k e => e)).blk (XC.out.below' hb) (fun e => HAB.out bc e rfl)
          have gC2 := fun v => gC.far (p := ⟨T, j, none⟩) (fun e => hTbc e.symm) v
          obtain ⟨⟨g1, g2⟩, g3, g4⟩ := HR.out.grow wA w6 hb hG
          exact ⟨⟨g1, g2, gC.cell 0, gC.cell 1⟩, g3, fun v => ⟨(g4 v).1, (g4 v).2, (gC2 v).cell 0, (gC2 v).cell 1⟩⟩)
        have HFR := hid (show ∀ (k' : Nat) (c : VCall) (a : SV), ([⟨0, [100 + (k : Int)]⟩] : List VCall)[k']? = some c → ([⟨(some ⟨ba, 0, none⟩), 1, 1⟩] : List SV)[k']? = some a → ((w5.alloc (.cells #[.int .i64 0, .slice (some ⟨ba, 0, none⟩) 1 1] 49))).drew.ownsRow w.heap.size 3 1 a.v c.args.length (c.args.flatMap gI) from fun k' c a hc ha => by
          rw [List.getElem?_singleton] at hc ha
          split at hc
          · rename_i h; rw [if_pos h] at ha
            injection hc with hc; injection ha with ha
            subst hc ha
            exact own_below OA.out (bnew (bnil _) _).drew
          · cases hc)
        refine wp_region_held_drew (S := (fun w' => w'.cell? ⟨X, 2, none⟩ = some (.slice (some ⟨T, 0, none⟩) 3 3) ∧ w'.frozen? ⟨T, j, none⟩ = false ∧ w'.cell? ⟨bc, 0, none⟩ = some (.int .i64 0) ∧ w'.cell? ⟨bc, 1, none⟩ = some (.slice (some ⟨ba, 0, none⟩) 1 1))) (by kernel_rfl) ?_ (fun hHeld => ?_)
        · (try dsimp only); (first | assumption | exact ⟨c2x, f3, c5, c6⟩ | exact HZ.1 | exact HZ.2.2 _ | (refine sees4f ?_ c2x c3 f3 c5 c6; (repeat (first | exact bnil _ | refine Below.drew ?_ | refine bnew ?_ _))))
        refine wpAnyH_take (i := 0) (oi := ⟨some 79, _, _, _, _, _⟩) (v := ?_) rfl (by kernel_rfl) (by kernel_rfl) (by kernel_rfl) (fun _ _ _ h => h) (Or.inl ⟨by rfl, ?_⟩) (by assumption) ?_
        rotate_left
        · intro w hSw; (try dsimp only at hSw); go_simp <;> with_reducible rfl
        try simp only [Act.put, List.setIfInBounds_toArray, List.set_cons_zero, List.set_cons_succ]
        refine wpAnyH_take (i := 1) (oi := ⟨some 80, _, _, _, _, _⟩) (v := ?_) rfl (by kernel_rfl) (by kernel_rfl) (by kernel_rfl) (fun _ _ _ h => h) (Or.inl ⟨by rfl, ?_⟩) (by assumption) ?_
        rotate_left
        · intro w hSw; (try dsimp only at hSw); go_simp <;> with_reducible rfl
        try simp only [Act.put, List.setIfInBounds_toArray, List.set_cons_zero, List.set_cons_succ]
        refine wpAnyH_take (i := 2) (oi := ⟨some 81, _, _, _, _, _⟩) (v := ?_) rfl (by kernel_rfl) (by kernel_rfl) (by kernel_rfl) (fun _ _ _ h => h) (Or.inl ⟨by rfl, ?_⟩) (by assumption) ?_
        rotate_left
        · intro w hSw; (try dsimp only at hSw); go_simp <;> with_reducible rfl
        try simp only [Act.put, List.setIfInBounds_toArray, List.set_cons_zero, List.set_cons_succ]
        refine wpAnyH_take (i := 3) (oi := ⟨some 82, _, _, _, _, _⟩) (v := ?_) rfl (by kernel_rfl) (by kernel_rfl) (by kernel_rfl) (fun _ _ _ h => h) (Or.inl ⟨by rfl, ?_⟩) (by assumption) ?_
        rotate_left
        · intro w hSw; (try dsimp only at hSw); go_simp <;> with_reducible rfl
        try simp only [Act.put, List.setIfInBounds_toArray, List.set_cons_zero, List.set_cons_succ]
        refine wpAnyH_take (i := 4) (oi := ⟨some 83, _, _, _, _, _⟩) (v := ?_) rfl (by kernel_rfl) (by kernel_rfl) (by kernel_rfl) (fun _ _ _ h => h) (Or.inl ⟨by rfl, ?_⟩) (by assumption) ?_
        rotate_left
        · intro w hSw; (try dsimp only at hSw); go_simp <;> with_reducible rfl
        try simp only [Act.put, List.setIfInBounds_toArray, List.set_cons_zero, List.set_cons_succ]
        refine wpAnyH_take (i := 5) (oi := ⟨some 84, _, _, _, _, _⟩) (v := ?_) rfl (by kernel_rfl) (by kernel_rfl) (by kernel_rfl) (fun _ _ _ h => h) (Or.inl ⟨by rfl, ?_⟩) (by assumption) ?_
        rotate_left
        · intro w hSw; (try dsimp only at hSw); go_simp <;> with_reducible rfl
        try simp only [Act.put, List.setIfInBounds_toArray, List.set_cons_zero, List.set_cons_succ]
        refine wpAnyH_take (i := 6) (oi := ⟨some 85, _, _, _, _, _⟩) (v := ?_) rfl (by kernel_rfl) (by kernel_rfl) (by kernel_rfl) (fun _ _ _ h => h) (Or.inl ⟨by rfl, ?_⟩) (by assumption) ?_
        rotate_left
        · intro w hSw; (try dsimp only at hSw); go_simp <;> with_reducible rfl
        try simp only [Act.put, List.setIfInBounds_toArray, List.set_cons_zero, List.set_cons_succ]
        refine wpAnyH_take (i := 7) (oi := ⟨some 86, _, _, _, _, _⟩) (v := ?_) rfl (by kernel_rfl) (by kernel_rfl) (by kernel_rfl) (fun _ _ _ h => h) (Or.inl ⟨by rfl, ?_⟩) (by assumption) ?_
        rotate_left
        · intro w hSw; (try dsimp only at hSw); go_simp <;> with_reducible rfl
        try simp only [Act.put, List.setIfInBounds_toArray, List.set_cons_zero, List.set_cons_succ]
        refine wpAnyH_take (i := 8) (oi := ⟨some 87, _, _, _, _, _⟩) (v := ?_) rfl (by kernel_rfl) (by kernel_rfl) (by kernel_rfl) (fun _ _ _ h => h) (Or.inl ⟨by rfl, ?_⟩) (by assumption) ?_
        rotate_left
        · intro w hSw; (try dsimp only at hSw); go_simp <;> with_reducible rfl
        try simp only [Act.put, List.setIfInBounds_toArray, List.set_cons_zero, List.set_cons_succ]
        refine wpAnyH_take (i := 10) (oi := ⟨some 89, _, _, _, _, _⟩) (v := ?_) rfl (by kernel_rfl) (by kernel_rfl) (by kernel_rfl) (fun _ _ _ h => h) (Or.inl ⟨by rfl, ?_⟩) (by assumption) ?_
        rotate_left
        · intro w hSw; (try dsimp only at hSw); go_simp <;> with_reducible rfl
        try simp only [Act.put, List.setIfInBounds_toArray, List.set_cons_zero, List.set_cons_succ]
        refine wpAnyH_ready (rs := [9, 11]) (by kernel_rfl) (by simp) ?_
        refine AllReadyH.cons (o := ⟨some 88, _, _, _, _, _⟩) rfl (fun K hK => ?_) ?_
        go_simp
        refine hK.out _ _ ?_ (fun hHeld => ?_)
        · (try dsimp only); (first | assumption | exact ⟨c2x, f3, c5, c6⟩ | exact HZ.1 | exact HZ.2.2 _ | (refine sees4f ?_ c2x c3 f3 c5 c6; (repeat (first | exact bnil _ | refine Below.drew ?_ | refine bnew ?_ _))))
        clear hK K
        try simp only [Act.put, List.setIfInBounds_toArray, List.set_cons_zero, List.set_cons_succ]
        refine wpAnyH_ready (rs := [11]) (by kernel_rfl) (by simp) ?_
        refine AllReadyH.cons (o := ⟨some 90, _, _, _, _, _⟩) rfl (fun K hK => ?_) AllReadyH.nil
        go_simp
        refine hK.out _ _ ?_ (fun hHeld => ?_)
        · (try dsimp only); (first | assumption | exact ⟨c2x, f3, c5, c6⟩ | exact HZ.1 | exact HZ.2.2 _ | (refine sees4f ?_ c2x c3 f3 c5 c6; (repeat (first | exact bnil _ | refine Below.drew ?_ | refine bnew ?_ _))))
        clear hK K
        try simp only [Act.put, List.setIfInBounds_toArray, List.set_cons_zero, List.set_cons_succ]
        refine wpAnyH_ready (rs := [12]) (by kernel_rfl) (by simp) ?_
        refine AllReadyH.cons (o := ⟨some 91, _, _, _, _, _⟩) rfl (fun K hK => ?_) AllReadyH.nil
        (refine step_appC elmCN gS_one rfl (.tmp 88) (.tmp 90) rfl (.slice Aj L cj) (((oths 100 kinds k) j).zip (av j)) rfl (HR.out.row _ (bnew (bnil _) _).drew) [((⟨0, [100 + (k : Int)]⟩ : VCall), (⟨(some ⟨ba, 0, none⟩), 1, 1⟩ : SV))] y HYE rfl (Sl.drew (Sl.fresh' _ #[_, _] 49 2 1 _ (by simp) rfl)) rfl (by rw [HYL.out]; simp only [maxLen]; omega) (by rw [HYL.out]; omega) (Nat.le_trans HR.out.size (bnew (bnil _) _).drew.size) ?_; intro E7 c7' w6 hc6 hc7 HN6 HG6 HO6; have HZ := HGW.out _ w6 (bnew (bnil _) _).drew HG6.out)
        refine hK.out _ _ ?_ (fun hHeld => ?_)
        · (try dsimp only); (first | assumption | exact ⟨c2x, f3, c5, c6⟩ | exact HZ.1 | exact HZ.2.2 _ | (refine sees4f ?_ c2x c3 f3 c5 c6; (repeat (first | exact bnil _ | refine Below.drew ?_ | refine bnew ?_ _))))
        clear hK K
        try simp only [Act.put, List.setIfInBounds_toArray, List.set_cons_zero, List.set_cons_succ]
        refine wpAnyH_take (i := 13) (oi := ⟨some 92, _, _, _, _, _⟩) (v := ?_) rfl (by kernel_rfl) (by kernel_rfl) (by kernel_rfl) (fun _ _ _ h => h) (Or.inl ⟨by rfl, ?_⟩) (by assumption) ?_
        rotate_left
        · intro w hSw; (try dsimp only at hSw); go_simp <;> with_reducible rfl
        try simp only [Act.put, List.setIfInBounds_toArray, List.set_cons_zero, List.set_cons_succ]
        refine wpAnyH_ready (rs := [14]) (by kernel_rfl) (by simp) ?_
        refine AllReadyH.cons (o := ⟨none, _, _, _, _, _⟩) rfl (fun K hK => ?_) AllReadyH.nil
        go_simp
        refine hK.out _ _ ?_ (fun hHeld => ?_)
        · (try dsimp only); (first | assumption | exact ⟨c2x, f3, c5, c6⟩ | exact HZ.1 | exact HZ.2.2 _ | (refine sees4f ?_ c2x c3 f3 c5 c6; (repeat (first | exact bnil _ | refine Below.drew ?_ | refine bnew ?_ _))))
        clear hK K
        try dsimp only [Act.put]
        refine wpAnyH_done (by kernel_rfl) ?_ _
        rotate_left
        refine AllReadyH.cons (o := ⟨some 90, _, _, _, _, _⟩) rfl (fun K hK => ?_) AllReadyH.nil
        go_simp
        refine hK.out _ _ ?_ (fun hHeld => ?_)
        · (try dsimp only); (first | assumption | exact ⟨c2x, f3, c5, c6⟩ | exact HZ.1 | exact HZ.2.2 _ | (refine sees4f ?_ c2x c3 f3 c5 c6; (repeat (first | exact bnil _ | refine Below.drew ?_ | refine bnew ?_ _))))
        clear hK K
        try simp only [Act.put, List.setIfInBounds_toArray, List.set_cons_zero, List.set_cons_succ]
        refine wpAnyH_ready (rs := [9]) (by kernel_rfl) (by simp) ?_
        refine AllReadyH.cons (o := ⟨some 88, _, _, _, _, _⟩) rfl (fun K hK => ?_) AllReadyH.nil
        go_simp
        refine hK.out _ _ ?_ (fun hHeld => ?_)
        · (try dsimp only); (first | assumption | exact ⟨c2x, f3, c5, c6⟩ | exact HZ.1 | exact HZ.2.2 _ | (refine sees4f ?_ c2x c3 f3 c5 c6; (repeat (first | exact bnil _ | refine Below.drew ?_ | refine bnew ?_ _))))
        clear hK K
        try simp only [Act.put, List.setIfInBounds_toArray, List.set_cons_zero, List.set_cons_succ]
        refine wpAnyH_ready (rs := [12]) (by kernel_rfl) (by simp) ?_
        refine AllReadyH.cons (o := ⟨some 91, _, _, _, _, _⟩) rfl (fun K hK => ?_) AllReadyH.nil
        (refine step_appC elmCN gS_one rfl (.tmp 88) (.tmp 90) rfl (.slice Aj L cj) (((oths 100 kinds k) j).zip (av j)) rfl (HR.out.row _ (bnew (bnil _) _).drew) [((⟨0, [100 + (k : Int)]⟩ : VCall), (⟨(some ⟨ba, 0, none⟩), 1, 1⟩ : SV))] y HYE rfl (Sl.drew (Sl.fresh' _ #[_, _] 49 2 1 _ (by simp) rfl)) rfl (by rw [HYL.out]; simp only [maxLen]; omega) (by rw [HYL.out]; omega) (Nat.le_trans HR.out.size (bnew (bnil _) _).drew.size) ?_; intro E7 c7' w6 hc6 hc7 HN6 HG6 HO6; have HZ := HGW.out _ w6 (bnew (bnil _) _).drew HG6.out)
        refine hK.out _ _ ?_ (fun hHeld => ?_)
        · (try dsimp only); (first | assumption | exact ⟨c2x, f3, c5, c6⟩ | exact HZ.1 | exact HZ.2.2 _ | (refine sees4f ?_ c2x c3 f3 c5 c6; (repeat (first | exact bnil _ | refine Below.drew ?_ | refine bnew ?_ _))))
        clear hK K
        try simp only [Act.put, List.setIfInBounds_toArray, List.set_cons_zero, List.set_cons_succ]
        refine wpAnyH_take (i := 13) (oi := ⟨some 92, _, _, _, _, _⟩) (v := ?_) rfl (by kernel_rfl) (by kernel_rfl) (by kernel_rfl) (fun _ _ _ h => h) (Or.inl ⟨by rfl, ?_⟩) (by assumption) ?_
        rotate_left
        · intro w hSw; (try dsimp only at hSw); go_simp <;> with_reducible rfl
        try simp only [Act.put, List.setIfInBounds_toArray, List.set_cons_zero, List.set_cons_succ]
        refine wpAnyH_ready (rs := [14]) (by kernel_rfl) (by simp) ?_
        refine AllReadyH.cons (o := ⟨none, _, _, _, _, _⟩) rfl (fun K hK => ?_) AllReadyH.nil
        go_simp
        refine hK.out _ _ ?_ (fun hHeld => ?_)
        · (try dsimp only); (first | assumption | exact ⟨c2x, f3, c5, c6⟩ | exact HZ.1 | exact HZ.2.2 _ | (refine sees4f ?_ c2x c3 f3 c5 c6; (repeat (first | exact bnil _ | refine Below.drew ?_ | refine bnew ?_ _))))
        clear hK K
        try dsimp only [Act.put]
        refine wpAnyH_done (by kernel_rfl) ?_ _
        rotate_left
        all_goals
          have HF := hid (HX5.out.app hj3 [⟨0, [100 + (k : Int)]⟩] [⟨(some ⟨ba, 0, none⟩), 1, 1⟩] (bnew (bnil _) _).drew rfl HFR.out HYE.out (by rw [HAJ.out]; exact HG6.out) (by rw [HAJ.out]; exact HO6.out) HN6.out)
          clear HZ HG6 HO6 HN6
          go_wp2
          go_roundw
          case rel => exact ⟨k + 1, _, _, by omega, by go_num, hid (by have h1 := HF.out; rw [← HCC.out, oths_upd _ _ HJ.out] at h1; exact h1)⟩
          case measure => simp [intOf]; omega
    · obtain rfl : k = calls := by omega
      have i1 : ¬ (k : Int) < (k : Int) := by omega
      have HTR := hid (HT.out.below HX.out.below)
      have HMA := hid (omach_at (ws := (swords N)) HX.out.mn (Nat.le_of_ble_eq_true rfl) (Nat.le_of_ble_eq_true rfl) spush_sh spop_sh hcl)
      have y0 : wr.cell? ⟨X, 0, none⟩ = some (.slice AW (2 * N + 2) cW) := HX.out.hx.cell 0
      have y1 : wr.cell? ⟨X, 1, none⟩ = some (.slice (some ⟨Cb, 0, none⟩) 2 2) := HX.out.hx.cell 1
      have y2 : wr.cell? ⟨X, 2, none⟩ = some (.slice (some ⟨T, 0, none⟩) 3 3) := HX.out.hx.cell 2
      have z0 := HX.out.hr.frozen 0
      have z1 := HX.out.hr.frozen 1
      have z2 := HX.out.hr.frozen 2
      have z3 : wr.cell? ⟨w.heap.size, 0, none⟩ = some (.slice none 0 0) := HX.out.hr.cell 0
      have z4 : wr.cell? ⟨w.heap.size, 1, none⟩ = some (.slice none 0 0) := HX.out.hr.cell 1
      have z5 : wr.cell? ⟨w.heap.size, 2, none⟩ = some (.slice none 0 0) := HX.out.hr.cell 2
      go_upto_region 14 with fail
      refine wp_region_held_drew (S := (fun w' => w'.cell? ⟨X, 0, none⟩ = some (.slice AW (2 * N + 2) cW) ∧ w'.cell? ⟨X, 1, none⟩ = some (.slice (some ⟨Cb, 0, none⟩) 2 2) ∧ w'.cell? ⟨X, 2, none⟩ = some (.slice (some ⟨T, 0, none⟩) 3 3) ∧ w'.frozen? ⟨w.heap.size, 0, none⟩ = false ∧ w'.frozen? ⟨w.heap.size, 1, none⟩ = false ∧ w'.frozen? ⟨w.heap.size, 2, none⟩ = false)) (by kernel_rfl) ?_ (fun hHeld => ?_)
      · (try dsimp only); (first | assumption | exact ⟨y0, y1, y2, z0, z1, z2⟩ | exact ⟨y0', y1', y2', z0', z1', z2'⟩ | exact keep16s hXR y0' y1' y2' z0' z1' z2' _ _ _)
      refine wpAnyH_take (i := 0) (oi := ⟨some 93, _, _, _, _, _⟩) (v := ?_) rfl (by kernel_rfl) (by kernel_rfl) (by kernel_rfl) (fun _ _ _ h => h) (Or.inl ⟨by rfl, ?_⟩) (by assumption) ?_
      rotate_left
      · intro w hSw; (try dsimp only at hSw); go_simp <;> with_reducible rfl
      try simp only [Act.put, List.setIfInBounds_toArray, List.set_cons_zero, List.set_cons_succ]
      refine wpAnyH_take (i := 1) (oi := ⟨some 94, _, _, _, _, _⟩) (v := ?_) rfl (by kernel_rfl) (by kernel_rfl) (by kernel_rfl) (fun _ _ _ h => h) (Or.inl ⟨by rfl, ?_⟩) (by assumption) ?_
      rotate_left
      · intro w hSw; (try dsimp only at hSw); go_simp <;> with_reducible rfl
      try simp only [Act.put, List.setIfInBounds_toArray, List.set_cons_zero, List.set_cons_succ]
      refine wpAnyH_ready (rs := [2]) (by kernel_rfl) (by simp) ?_
      refine AllReadyH.cons (o := ⟨some 95, _, _, _, _, _⟩) rfl (fun K hK => ?_) AllReadyH.nil
      go_simp
      refine (run_may AW (some ⟨Cb, 0, none⟩) (some ⟨T, 0, none⟩) (2 * N + 2) cW 2 2 3 3 _ _ (by omega) (by decide) (by decide) (HTR.out.below (bnil _).drew) (HMA.out.below (bnil _).drew)).mono ?_; rintro e w4 ⟨rfl, b4⟩; have b4 := bgo (bnil wr).drew b4; obtain ⟨y0', y1', y2', z0', z1', z2', z3', z4', z5'⟩ := keep16 b4 y0 y1 y2 z0 z1 z2 z3 z4 z5; clear y0 y1 y2 z0 z1 z2 z3 z4 z5
      go_wp2_with fail
      refine hK.out _ _ ?_ (fun hHeld => ?_)
      · (try dsimp only); (first | assumption | exact ⟨y0, y1, y2, z0, z1, z2⟩ | exact ⟨y0', y1', y2', z0', z1', z2'⟩ | exact keep16s hXR y0' y1' y2' z0' z1' z2' _ _ _)
      clear hK K
      try simp only [Act.put, List.setIfInBounds_toArray, List.set_cons_zero, List.set_cons_succ]
      refine wpAnyH_ready (rs := [3]) (by kernel_rfl) (by simp) ?_
      refine AllReadyH.cons (o := ⟨none, _, _, _, _, _⟩) rfl (fun K hK => ?_) AllReadyH.nil
      go_simp
      refine hK.out _ _ ?_ (fun hHeld => ?_)
      · (try dsimp only); (first | assumption | exact ⟨y0, y1, y2, z0, z1, z2⟩ | exact ⟨y0', y1', y2', z0', z1', z2'⟩ | exact keep16s hXR y0' y1' y2' z0' z1' z2' _ _ _)
      clear hK K
      try dsimp only [Act.put]
      refine wpAnyH_take (i := 4) (oi := ⟨some 7, _, _, _, _, _⟩) (v := ?_) rfl (by kernel_rfl) (by kernel_rfl) (by kernel_rfl) (fun _ _ _ h => h) (Or.inl ⟨by rfl, ?_⟩) (by assumption) ?_
      rotate_left
      · intro w hSw; (try dsimp only at hSw); go_simp <;> with_reducible rfl
      try simp only [Act.put, List.setIfInBounds_toArray, List.set_cons_zero, List.set_cons_succ]
      refine wpAnyH_done (by kernel_rfl) ?_ _
      rotate_left
      go_wp2_with fail
      have HXZ := hid (HX.out.step b4)
      obtain ⟨q0, q1, q2⟩ := set3N HXZ.out.hr (.slice AW (2 * N + 2) cW) (.slice (some ⟨Cb, 0, none⟩) 2 2) (.slice (some ⟨T, 0, none⟩) 3 3)
      refine bodyPost_ret (v := .tuple #[.agg #[.slice AW (2 * N + 2) cW, .slice (some ⟨Cb, 0, none⟩) 2 2, .slice (some ⟨T, 0, none⟩) 3 3], .bool true]) (by simp [results, Tryd.results31, go_sem, q0, q1, q2]) rfl ?_
      exact ⟨AW, cW, Cb, T, _, tv, av, rfl, by have h := own_res HXZ.out.own HXZ.out.hr (by decide) (.slice AW (2 * N + 2) cW) (.slice (some ⟨Cb, 0, none⟩) 2 2) (.slice (some ⟨T, 0, none⟩) 3 3); rw [HWL.out] at h; exact h, HXZ.out.mn.res HXZ.out.hr _ _ _, ((HXZ.out.below.setCell (p := ⟨w.heap.size, 0, none⟩) (Nat.le_refl _) _).setCell (p := ⟨w.heap.size, 1, none⟩) (Nat.le_refl _) _).setCell (p := ⟨w.heap.size, 2, none⟩) (Nat.le_refl _) _⟩
end

section
open Go.RowKit
theorem sl0 (w : World) : Sl w 1 none 0 (([] : List Int).flatMap gI) := ⟨by simp, fun h => absurd h (by decide)⟩
set_option maxHeartbeats 8000000 in
set_option maxRecDepth 100000 in
theorem law_stackLinear (xi : Int) (D : Option Addr) (r s : Nat) (kinds : List Bool) (S : Option Addr) (p p2 : Nat) (bs : List UInt8) (w : World) (ha : -9223372036854775808 ≤ xi) (ha1 : xi ≤ 9223372036854775807)
    (hr : r ≤ s) (hs : s ≤ maxLen) (_ : s * 1 ≤ 140737488351232) (hD : Sl w 1 D r (kinds.flatMap gBo)) (_ : True) (hp : p ≤ p2) (hq : p2 ≤ maxLen) (_ : p2 * 1 ≤ 140737488351232) (hS : Sl w 1 S p (byts bs)) (hT : STab w) :
    Calls Tryd.prog 6 #[.int .i64 xi, .slice D r s, .slice S p p2] w fun e w' => e = .returned (.bool true) ∧ Below w.heap.size w w' := by
  have HDD := hid hD; have HT := hid hT; have HS := hid hS
  clear hD hT hS
  have hrl : r ≤ 9223372036854775807 := by unfold maxLen at hs; omega
  have hpl : p ≤ 9223372036854775807 := by unfold maxLen at hq; omega
  clear hs hq
  have m1 := pk_lt xi 4 (by decide)
  obtain ⟨N, hR⟩ : ∃ N : Nat, wrap64 (1 + (pk xi 4 : Int)) = (N : Int) ∧ N = 1 + pk xi 4 := ⟨1 + pk xi 4, by rw [wrap_mid (by omega) (by omega)]; omega, rfl⟩
  have h1 : 1 ≤ N := by omega
  have h4 : N ≤ 4 := by omega
  have h8 : N ≤ 8 := by omega
  have HR := hid hR.1
  clear hR m1
  go_enter Tryd.func6, Tryd.ntmps6
  go_wp2_with fail
  refine (picked xi 4 w (by decide) ha ha1 (by decide)).mono ?_
  rintro e w' ⟨rfl, rfl⟩
  go_wp2_with fail
  try rw [HR.out]
  refine (stack_machine N D r s 9 kinds w h1 h8 (by decide) hrl HDD.out HT.out).mono ?_
  rintro e w1 hp1
  obtain ⟨AW, cW, Cb, T, cv1, tv, av, rfl, hW, hM, b1⟩ := hp1
  have HM := hid hM; have B1 := hid b1; have HW := hid hW
  clear hM b1 hW
  obtain ⟨X, hX⟩ : ∃ X, w1.heap.size = X := ⟨_, rfl⟩
  go_upto_region 3 with fail
  have HX0 := hid (blkN w1 34 #[.slice AW (2 * N + 2) cW, .slice (some ⟨Cb, 0, none⟩) 2 2, .slice (some ⟨T, 0, none⟩) 3 3] X hX)
  have BA := hid (bgo B1.out (bnew (bnil w1) (.cells #[.slice AW (2 * N + 2) cW, .slice (some ⟨Cb, 0, none⟩) 2 2, .slice (some ⟨T, 0, none⟩) 3 3] 34)))
  have HMN := hid (HM.out.below (bnew (bnil w1) (.cells #[.slice AW (2 * N + 2) cW, .slice (some ⟨Cb, 0, none⟩) 2 2, .slice (some ⟨T, 0, none⟩) 3 3] 34)))
  have HMA := hid (omach_at (ws := (swords N)) HMN.out (Nat.le_of_ble_eq_true rfl) (Nat.le_of_ble_eq_true rfl) spush_sh spop_sh (by decide))
  have HWA := hid (own_below HW.out (bnew (bnil w1) (.cells #[.slice AW (2 * N + 2) cW, .slice (some ⟨Cb, 0, none⟩) 2 2, .slice (some ⟨T, 0, none⟩) 3 3] 34)))
  generalize World.alloc w1 _ = wA at *
  clear hX HM HW
  have y0 : wA.cell? ⟨X, 0, none⟩ = some (.slice AW (2 * N + 2) cW) := HX0.out.cell 0
  have y1 : wA.cell? ⟨X, 1, none⟩ = some (.slice (some ⟨Cb, 0, none⟩) 2 2) := HX0.out.cell 1
  have y2 : wA.cell? ⟨X, 2, none⟩ = some (.slice (some ⟨T, 0, none⟩) 3 3) := HX0.out.cell 2
  refine wp_region_held_drew (S := (fun w' => w'.cell? ⟨X, 0, none⟩ = some (.slice AW (2 * N + 2) cW) ∧ w'.cell? ⟨X, 1, none⟩ = some (.slice (some ⟨Cb, 0, none⟩) 2 2) ∧ w'.cell? ⟨X, 2, none⟩ = some (.slice (some ⟨T, 0, none⟩) 3 3))) (by kernel_rfl) ?_ (fun hHeld => ?_)
  · (try dsimp only); (first | assumption | exact ⟨y0, y1, y2⟩ | exact ⟨z0, z1, z2⟩ | exact ⟨u0, u1, u2⟩)
  refine wpAnyH_take (i := 0) (oi := ⟨some 27, _, _, _, _, _⟩) (v := ?_) rfl (by kernel_rfl) (by kernel_rfl) (by kernel_rfl) (fun _ _ _ h => h) (Or.inl ⟨by rfl, ?_⟩) (by assumption) ?_
  rotate_left
  · intro w hSw; (try dsimp only at hSw); go_simp <;> with_reducible rfl
  try simp only [Act.put, List.setIfInBounds_toArray, List.set_cons_zero, List.set_cons_succ]
  refine wpAnyH_take (i := 1) (oi := ⟨some 28, _, _, _, _, _⟩) (v := ?_) rfl (by kernel_rfl) (by kernel_rfl) (by kernel_rfl) (fun _ _ _ h => h) (Or.inl ⟨by rfl, ?_⟩) (by assumption) ?_
  rotate_left
  · intro w hSw; (try dsimp only at hSw); go_simp <;> with_reducible rfl
  try simp only [Act.put, List.setIfInBounds_toArray, List.set_cons_zero, List.set_cons_succ]
  refine wpAnyH_ready (rs := [2]) (by kernel_rfl) (by simp) ?_
  refine AllReadyH.cons (o := ⟨some 29, _, _, _, _, _⟩) rfl (fun K hK => ?_) AllReadyH.nil
  go_simp
  refine (schedule_n S p p2 3 800 bs _ hpl (by decide) (by decide) (by decide) (HS.out.below (bgo BA.out (bnil wA).drew))).mono ?_; rintro e w2 ⟨v, rfl, ho⟩; have hl4 : (schedN bs 3 800).length ≤ 800 := (by have := schedN_len bs 3 800; omega); have HLT := hid (schedN_lt bs (N := 3) (by decide) 800); generalize schedN bs 3 800 = all at *; obtain ⟨Al, cl, rfl, hcl, hcl2⟩ := ho.form; have HO := hid ho; clear ho; rw [show (nats all).length = all.length by simp] at *; unfold maxLen at hcl2; obtain ⟨NN, hN⟩ : ∃ NN, all.length = NN := ⟨_, rfl⟩; rw [hN] at HO hl4 hcl ⊢; have HN := hid hN; clear hN; have BS := hid (bgo (bnil wA).drew HO.out.below); obtain ⟨z0, z1, z2⟩ := cells3 BS.out y0 y1 y2
  go_wp2_with fail
  refine hK.out _ _ ?_ (fun hHeld => ?_)
  · (try dsimp only); (first | assumption | exact ⟨y0, y1, y2⟩ | exact ⟨z0, z1, z2⟩ | exact ⟨u0, u1, u2⟩)
  clear hK K
  try simp only [Act.put, List.setIfInBounds_toArray, List.set_cons_zero, List.set_cons_succ]
  refine wpAnyH_ready (rs := [3]) (by kernel_rfl) (by simp) ?_
  refine AllReadyH.cons (o := ⟨some 30, _, _, _, _, _⟩) rfl (fun K hK => ?_) AllReadyH.nil
  go_simp
  have HWS := hid (show Sl w2 1 AW (2 * N + 2) (ints (swords N)) from Sl.own (own_below HWA.out BS.out)); have HPL := hid ((by obtain ⟨⟨H, s, _, h⟩, _, h2⟩ := stack_play (m := omach (swords N) spushCode spopCode 100 kinds 9) ⟨h1, h8⟩ (omach_sm (N := N) (off := 100) (calls := 9) (kinds := kinds)) all (by rw [HN.out]; omega); exact ⟨lino_res h, h2⟩ : LinRO false N (omach (swords N) spushCode spopCode 100 kinds 9) (doings (play (omach (swords N) spushCode spopCode 100 kinds 9) all).evs) ∧ NoErr (play (omach (swords N) spushCode spopCode 100 kinds 9) all).evs)); have HMB := hid (HMA.out.below BS.out); refine (ran_of AW (some ⟨Cb, 0, none⟩) (some ⟨T, 0, none⟩) Al (2 * N + 2) cW 2 2 3 3 NN cl (omach (swords N) spushCode spopCode 100 kinds 9) all w2 (by omega) (by decide) (by decide) (by omega) hcl (HT.out.below (bgo BA.out BS.out)) HMB.out HWS.out HO.out.sl HLT.out HPL.out.2 (play_fin _ all)).mono ?_; rintro e w3 hp3; obtain ⟨v3, rs, rfl, hrow, hrs, htold, b3⟩ := hp3; obtain ⟨A3, c3, rfl, hc3, hc3'⟩ := own_form hrow; obtain ⟨LD, hLD⟩ : ∃ LD, rs.length = LD := ⟨_, rfl⟩; rw [hLD] at hrow hc3 ⊢; have HD := hid (DsAt.mk hLD hrow htold); have HRS := hid hrs; have HLDD := hid hLD; have B3 := hid (bgo BS.out b3); clear hrow htold hrs b3 hLD; obtain ⟨u0, u1, u2⟩ := cells3 B3.out y0 y1 y2
  go_wp2_with fail
  refine hK.out _ _ ?_ (fun hHeld => ?_)
  · (try dsimp only); (first | assumption | exact ⟨y0, y1, y2⟩ | exact ⟨z0, z1, z2⟩ | exact ⟨u0, u1, u2⟩)
  clear hK K
  try simp only [Act.put, List.setIfInBounds_toArray, List.set_cons_zero, List.set_cons_succ]
  refine wpAnyH_take (i := 4) (oi := ⟨some 26, _, _, _, _, _⟩) (v := ?_) rfl (by kernel_rfl) (by kernel_rfl) (by kernel_rfl) (fun _ _ _ h => h) (Or.inl ⟨by rfl, ?_⟩) (by assumption) ?_
  rotate_left
  · intro w hSw; (try dsimp only at hSw); go_simp <;> with_reducible rfl
  try simp only [Act.put, List.setIfInBounds_toArray, List.set_cons_zero, List.set_cons_succ]
  refine wpAnyH_take (i := 5) (oi := ⟨some 31, _, _, _, _, _⟩) (v := ?_) rfl (by kernel_rfl) (by kernel_rfl) (by kernel_rfl) (fun _ _ _ h => h) (Or.inl ⟨by rfl, ?_⟩) (by assumption) ?_
  rotate_left
  · intro w hSw; (try dsimp only at hSw); go_simp <;> with_reducible rfl
  try simp only [Act.put, List.setIfInBounds_toArray, List.set_cons_zero, List.set_cons_succ]
  refine wpAnyH_take (i := 6) (oi := ⟨some 32, _, _, _, _, _⟩) (v := ?_) rfl (by kernel_rfl) (by kernel_rfl) (by kernel_rfl) (fun _ _ _ h => h) (Or.inl ⟨by rfl, ?_⟩) (by assumption) ?_
  rotate_left
  · intro w hSw; (try dsimp only at hSw); go_simp <;> with_reducible rfl
  try simp only [Act.put, List.setIfInBounds_toArray, List.set_cons_zero, List.set_cons_succ]
  refine wpAnyH_take (i := 7) (oi := ⟨some 10, _, _, _, _, _⟩) (v := ?_) rfl (by kernel_rfl) (by kernel_rfl) (by kernel_rfl) (fun _ _ _ h => h) (Or.inl ⟨by rfl, ?_⟩) (by assumption) ?_
  rotate_left
  · intro w hSw; (try dsimp only at hSw); go_simp <;> with_reducible rfl
  try simp only [Act.put, List.setIfInBounds_toArray, List.set_cons_zero, List.set_cons_succ]
  refine wpAnyH_take (i := 8) (oi := ⟨some 11, _, _, _, _, _⟩) (v := ?_) rfl (by kernel_rfl) (by kernel_rfl) (by kernel_rfl) (fun _ _ _ h => h) (Or.inl ⟨by rfl, ?_⟩) (by assumption) ?_
  rotate_left
  · intro w hSw; (try dsimp only at hSw); go_simp <;> with_reducible rfl
  try simp only [Act.put, List.setIfInBounds_toArray, List.set_cons_zero, List.set_cons_succ]
  refine wpAnyH_done (by kernel_rfl) ?_ _
  rotate_left
  have B03 := hid (bgo BA.out B3.out)
  have HM3 := hid (HMN.out.below B3.out)
  have HX3 := hid (HX0.out.below' B3.out)
  clear hHeld
  have HW2 := hid (bgo BA.out BS.out).size
  clear z0 z1 z2 u0 u1 u2 y0 y1 y2 HX0 HMA HWA BA HO HWS HMB BS HMN
  have HQ := hid HPL.out.1
  have HTHR := hid (fun (t c : Nat) (x : VCall) (h : callOf (omach (swords N) spushCode spopCode 100 kinds 9) t c = some x) => ocallM h)
  rw [← HRS.out] at HQ
  obtain ⟨mm, hmm⟩ : ∃ mm, (omach (swords N) spushCode spopCode 100 kinds 9) = mm := ⟨_, rfl⟩
  rw [hmm] at HQ HTHR
  obtain ⟨ds, hds⟩ : ∃ ds, rs.map (·.1) = ds := ⟨_, rfl⟩
  have HDS := hid hds
  rw [hds] at HQ
  have hL9 : LD ≤ 9 := by have := HQ.out.len; rw [← hds, List.length_map, HLDD.out] at this; exact this
  have HLEN := hid (show ds.length = LD by rw [← hds, List.length_map, HLDD.out])
  clear hds hmm HRS HPL
  unfold maxLen at hc3'
  obtain ⟨w4, hw4⟩ : ∃ w4, w4 = w3 := ⟨_, rfl⟩
  subst hw4
  go_wp2_with fail
  go_loopw [12, 13] (fun a i wz => ∃ (k : Nat) (A1 : Option Addr) (LA c1 : Nat), k ≤ LD ∧ LA ≤ k ∧ i = .int .i64 k ∧ a = .slice A1 LA c1 ∧ Hid (Ow w4 wz 52 5 gA (.slice A1 LA c1) ((ds.take k).filterMap (oact mm)))) (fun _ i _ => LD - (intOf i).toNat)
  case atStart => exact ⟨0, none, 0, 0, Nat.zero_le _, Nat.le_refl _, rfl, rfl, hid (Ow.nil _ _ _ _)⟩
  case round =>
    obtain ⟨k, A1, LA, c1, hk, hLAk, rfl, rfl, HO⟩ := hrel
    have HLA := hid (show ((ds.take k).filterMap (oact mm)).length = LA by obtain ⟨A', c', e, _⟩ := HO.out.form; injection e with _ e _; exact e.symm)
    by_cases hlt : k < LD
    · have j1 : (k : Int) < (LD : Int) := by omega
      obtain ⟨b9, d, At, ct, rfl, hd, lt9, u0, u1, u2, u3, u4, ut⟩ := (HD.out.below HO.out.below).at_ hlt
      rw [HDS.out] at hd
      have HDk := hid hd
      obtain ⟨x, hx, hxok⟩ := HQ.out.call k d hd
      obtain ⟨ht3, hxc⟩ := HTHR.out _ _ _ hx
      have HX1 := hid hx
      have HUT := hid ut
      obtain ⟨E1, hE1⟩ : ∃ E1, eI d.e = E1 := ⟨_, rfl⟩
      rw [hE1] at u1
      have HE1 := hid hE1
      obtain ⟨LT, hLT⟩ : ∃ LT, d.told.length = LT := ⟨_, rfl⟩
      rw [hLT] at u4
      have HLT2 := hid hLT
      obtain ⟨bx, hbx⟩ : ∃ bx, wr.heap.size = bx := ⟨_, rfl⟩
      have HBX := hid hbx
      have XB0 := hid (blkN wr 47 #[.int .i64 (d.b : Int), .int .i64 E1, .int .i64 (d.t : Int), .int .i64 (d.c : Int), .slice At LT ct] bx hbx)
      have BN0 := hid (bnew (bnil wr) (.cells #[.int .i64 (d.b : Int), .int .i64 E1, .int .i64 (d.t : Int), .int .i64 (d.c : Int), .slice At LT ct] 47))
      clear hd ut hbx hE1 hLT hx
      go_upto_region 11 with fail
      have hbx := HBX.out
      try rw [hbx]
      clear hbx
      generalize World.alloc wr _ = wq at *
      have HOq := hid (HO.out.step BN0.out)
      have HUq := hid (own_below HUT.out BN0.out)
      have BQ := hid HOq.out.below
      clear u0 u1 u2 u3 u4 lt9 HUT HO
      have g0 : wq.cell? ⟨bx, 0, none⟩ = some (.int .i64 (d.b : Int)) := XB0.out.cell 0
      have g1 : wq.cell? ⟨bx, 1, none⟩ = some (.int .i64 E1) := XB0.out.cell 1
      have u2 : wq.cell? ⟨bx, 2, none⟩ = some (.int .i64 (d.t : Int)) := XB0.out.cell 2
      have u3 : wq.cell? ⟨bx, 3, none⟩ = some (.int .i64 (d.c : Int)) := XB0.out.cell 3
      have g4 : wq.cell? ⟨bx, 4, none⟩ = some (.slice At LT ct) := XB0.out.cell 4
      obtain ⟨br, cr, ax, c3, r0, r1, ra⟩ := o_codeAt (HM3.out.below BQ.out) ht3 hxc
      obtain ⟨Aa, ca, eax, _, _⟩ := own_form ra
      rw [eax] at r1 ra
      have hcl3 := (List.getElem?_eq_some_iff.1 hxc).1
      obtain ⟨NL, hNL⟩ : ∃ NL, ((oths 100 kinds 9) d.t).length = NL := ⟨_, rfl⟩
      rw [hNL] at c3 hcl3
      obtain ⟨LA2, hLA2⟩ : ∃ L, x.args.length = L := ⟨_, rfl⟩
      rw [hLA2] at r1
      have HLA2 := hid hLA2
      have c2 : wq.cell? ⟨X, 2, none⟩ = some (.slice (some ⟨T, 0, none⟩) 3 3) := (HX3.out.below' BQ.out).cell 2
      have it3 : (d.t : Int) < 3 := by omega
      have icl : (d.c : Int) < (NL : Int) := by omega
      have RA := hid ra
      clear hxc ra hNL eax hLA2
      obtain ⟨bc, hbc⟩ : ∃ bc, wq.heap.size = bc := ⟨_, rfl⟩
      have HBC := hid hbc
      have XC0 := hid (blkN wq 49 #[.int .i64 (x.code : Int), .slice Aa LA2 ca] bc hbc)
      have hxbc : bx < bc := by rw [← hbc]; exact World.block_lt_of_cell? wq _ g0
      clear hbc
      refine wp_region_held_drew (S := (fun w' => w'.cell? ⟨X, 2, none⟩ = some (.slice (some ⟨T, 0, none⟩) 3 3) ∧ w'.cell? ⟨bx, 2, none⟩ = some (.int .i64 (d.t : Int)) ∧ w'.cell? ⟨T, d.t, none⟩ = some (.slice (some ⟨br, 0, none⟩) NL cr) ∧ w'.cell? ⟨bx, 3, none⟩ = some (.int .i64 (d.c : Int)) ∧ w'.cell? ⟨br, d.c * 2, none⟩ = some (.int .i64 (x.code : Int)) ∧ w'.cell? ⟨br, d.c * 2 + 1, none⟩ = some (.slice Aa LA2 ca))) (by kernel_rfl) ?_ (fun hHeld => ?_)
      · (try dsimp only); (first | assumption | exact ⟨c2, u2, c3, u3, r0, r1⟩ | (refine sees6o ?_ c2 u2 c3 u3 r0 r1; (repeat (first | exact bnil _ | refine Below.drew ?_ | refine bnew ?_ _))))
      refine wpAnyH_take (i := 0) (oi := ⟨some 49, _, _, _, _, _⟩) (v := ?_) rfl (by kernel_rfl) (by kernel_rfl) (by kernel_rfl) (fun _ _ _ h => h) (Or.inl ⟨by rfl, ?_⟩) (by assumption) ?_
      rotate_left
      · intro w hSw; (try dsimp only at hSw); go_simp <;> with_reducible rfl
      try simp only [Act.put, List.setIfInBounds_toArray, List.set_cons_zero, List.set_cons_succ]
      refine wpAnyH_take (i := 1) (oi := ⟨some 50, _, _, _, _, _⟩) (v := ?_) rfl (by kernel_rfl) (by kernel_rfl) (by kernel_rfl) (fun _ _ _ h => h) (Or.inl ⟨by rfl, ?_⟩) (by assumption) ?_
      rotate_left
      · intro w hSw; (try dsimp only at hSw); go_simp <;> with_reducible rfl
      try simp only [Act.put, List.setIfInBounds_toArray, List.set_cons_zero, List.set_cons_succ]
      refine wpAnyH_take (i := 2) (oi := ⟨some 51, _, _, _, _, _⟩) (v := ?_) rfl (by kernel_rfl) (by kernel_rfl) (by kernel_rfl) (fun _ _ _ h => h) (Or.inl ⟨by rfl, ?_⟩) (by assumption) ?_
      rotate_left
      · intro w hSw; (try dsimp only at hSw); go_simp <;> with_reducible rfl
      try simp only [Act.put, List.setIfInBounds_toArray, List.set_cons_zero, List.set_cons_succ]
      refine wpAnyH_take (i := 3) (oi := ⟨some 52, _, _, _, _, _⟩) (v := ?_) rfl (by kernel_rfl) (by kernel_rfl) (by kernel_rfl) (fun _ _ _ h => h) (Or.inl ⟨by rfl, ?_⟩) (by assumption) ?_
      rotate_left
      · intro w hSw; (try dsimp only at hSw); go_simp <;> with_reducible rfl
      try simp only [Act.put, List.setIfInBounds_toArray, List.set_cons_zero, List.set_cons_succ]
      refine wpAnyH_take (i := 4) (oi := ⟨some 53, _, _, _, _, _⟩) (v := ?_) rfl (by kernel_rfl) (by kernel_rfl) (by kernel_rfl) (fun _ _ _ h => h) (Or.inl ⟨by rfl, ?_⟩) (by assumption) ?_
      rotate_left
      · intro w hSw; (try dsimp only at hSw); go_simp <;> with_reducible rfl
      try simp only [Act.put, List.setIfInBounds_toArray, List.set_cons_zero, List.set_cons_succ]
      refine wpAnyH_take (i := 5) (oi := ⟨some 54, _, _, _, _, _⟩) (v := ?_) rfl (by kernel_rfl) (by kernel_rfl) (by kernel_rfl) (fun _ _ _ h => h) (Or.inl ⟨by rfl, ?_⟩) (by assumption) ?_
      rotate_left
      · intro w hSw; (try dsimp only at hSw); go_simp <;> with_reducible rfl
      try simp only [Act.put, List.setIfInBounds_toArray, List.set_cons_zero, List.set_cons_succ]
      refine wpAnyH_take (i := 6) (oi := ⟨some 55, _, _, _, _, _⟩) (v := ?_) rfl (by kernel_rfl) (by kernel_rfl) (by kernel_rfl) (fun _ _ _ h => h) (Or.inl ⟨by rfl, ?_⟩) (by assumption) ?_
      rotate_left
      · intro w hSw; (try dsimp only at hSw); go_simp <;> with_reducible rfl
      try simp only [Act.put, List.setIfInBounds_toArray, List.set_cons_zero, List.set_cons_succ]
      refine wpAnyH_take (i := 7) (oi := ⟨some 56, _, _, _, _, _⟩) (v := ?_) rfl (by kernel_rfl) (by kernel_rfl) (by kernel_rfl) (fun _ _ _ h => h) (Or.inl ⟨by rfl, ?_⟩) (by assumption) ?_
      rotate_left
      · intro w hSw; (try dsimp only at hSw); go_simp <;> with_reducible rfl
      try simp only [Act.put, List.setIfInBounds_toArray, List.set_cons_zero, List.set_cons_succ]
      refine wpAnyH_take (i := 8) (oi := ⟨some 57, _, _, _, _, _⟩) (v := ?_) rfl (by kernel_rfl) (by kernel_rfl) (by kernel_rfl) (fun _ _ _ h => h) (Or.inl ⟨by rfl, ?_⟩) (by assumption) ?_
      rotate_left
      · intro w hSw; (try dsimp only at hSw); go_simp <;> with_reducible rfl
      try simp only [Act.put, List.setIfInBounds_toArray, List.set_cons_zero, List.set_cons_succ]
      refine wpAnyH_take (i := 9) (oi := ⟨some 58, _, _, _, _, _⟩) (v := ?_) rfl (by kernel_rfl) (by kernel_rfl) (by kernel_rfl) (fun _ _ _ h => h) (Or.inl ⟨by rfl, ?_⟩) (by assumption) ?_
      rotate_left
      · intro w hSw; (try dsimp only at hSw); go_simp <;> with_reducible rfl
      try simp only [Act.put, List.setIfInBounds_toArray, List.set_cons_zero, List.set_cons_succ]
      refine wpAnyH_ready (rs := [10]) (by kernel_rfl) (by simp) ?_
      refine AllReadyH.cons (o := ⟨some 15, _, _, _, _, _⟩) rfl (fun K hK => ?_) AllReadyH.nil
      go_simp
      refine hK.out _ _ ?_ (fun hHeld => ?_)
      · (try dsimp only); (first | assumption | exact ⟨c2, u2, c3, u3, r0, r1⟩ | (refine sees6o ?_ c2 u2 c3 u3 r0 r1; (repeat (first | exact bnil _ | refine Below.drew ?_ | refine bnew ?_ _))))
      clear hK K
      try simp only [Act.put, List.setIfInBounds_toArray, List.set_cons_zero, List.set_cons_succ]
      refine wpAnyH_ready (rs := [11]) (by kernel_rfl) (by simp) ?_
      refine AllReadyH.cons (o := ⟨none, _, _, _, _, _⟩) rfl (fun K hK => ?_) AllReadyH.nil
      go_simp
      refine hK.out _ _ ?_ (fun hHeld => ?_)
      · (try dsimp only); (first | assumption | exact ⟨c2, u2, c3, u3, r0, r1⟩ | (refine sees6o ?_ c2 u2 c3 u3 r0 r1; (repeat (first | exact bnil _ | refine Below.drew ?_ | refine bnew ?_ _))))
      clear hK K
      try dsimp only [Act.put]
      refine wpAnyH_done (by kernel_rfl) ?_ _
      rotate_left
      have hbc := HBC.out
      have B7 := hid ((bnew (bnil wq) (.cells #[.int .i64 (x.code : Int), .slice Aa LA2 ca] 49)).drew)
      have XC := hid (show Blk ((wq.alloc (.cells #[.int .i64 (x.code : Int), .slice Aa LA2 ca] 49)).drew) bc 49 #[.int .i64 (x.code : Int), .slice Aa LA2 ca] from XC0.out)
      rw [hbc]
      clear hbc XC0 hHeld
      generalize World.drew (World.alloc wq (.cells #[.int .i64 (x.code : Int), .slice Aa LA2 ca] 49)) = w7 at *
      have g0 := cell_below B7.out g0
      have g1 := cell_below B7.out g1
      have g4 := cell_below B7.out g4
      have HO7 := hid (HOq.out.step B7.out)
      have RA7 := hid (own_below RA.out B7.out)
      have UT7 := hid (own_below HUq.out B7.out)
      have xc0 : w7.cell? ⟨bc, 0, none⟩ = some (.int .i64 (x.code : Int)) := XC.out.cell 0
      have xc1 : w7.cell? ⟨bc, 1, none⟩ = some (.slice Aa LA2 ca) := XC.out.cell 1
      clear c2 c3 u2 u3 r0 r1 RA icl it3 HUq HOq
      obtain ⟨pb, hpb⟩ : ∃ pb : Bool, ((x.code : Int) == 0) = pb := ⟨_, rfl⟩
      have HPB := hid hpb
      obtain ⟨ba, hba⟩ : ∃ ba, w7.heap.size = ba := ⟨_, rfl⟩
      have HBA := hid hba
      have XA0 := hid (blkN w7 52 #[.int .i64 (d.b : Int), .int .i64 E1, .bool pb, .int .i64 0, .int .i64 0] ba hba)
      have ltc := World.block_lt_of_cell? w7 _ xc0
      clear hba
      have B8 := hid (bnew (bnil w7) (.cells #[.int .i64 (d.b : Int), .int .i64 E1, .bool pb, .int .i64 0, .int .i64 0] 52))
      go_upto_region 13 with fail
      have hba := HBA.out
      rw [hba]
      have XA := hid XA0.out
      generalize World.alloc w7 (.cells #[.int .i64 (d.b : Int), .int .i64 E1, .bool pb, .int .i64 0, .int .i64 0] 52) = w8 at *
      have HUTL := hid (fun b hb => (own_ge UT7.out b hb).2)
      have HRAL := hid (fun b hb => (own_ge RA7.out b hb).2)
      have HO8 := hid (HO7.out.step B8.out)
      have HNB := hid (show ∀ b, (Value.slice A1 LA c1).ownBlock = some b → b ≠ ba from fun b hb => by have := (own_ge HO7.out.own b hb).2; omega)
      have HBA4 := hid (show w4.heap.size ≤ ba by rw [← hba]; exact HO7.out.below.size)
      have hbcba : bc < ba := by have h := ltc; rw [hba] at h; exact h
      clear hba XA0
      have e0 := cell_below B8.out g0
      have e1 := cell_below B8.out g1
      have e4 := cell_below B8.out g4
      have xd0 := cell_below B8.out xc0
      have xd1 := cell_below B8.out xc1
      have RA8 := hid (own_below RA7.out B8.out)
      have UT8 := hid (own_below UT7.out B8.out)
      have HM8 := hid (HM3.out.below HO8.out.below)
      have HD8 := hid (HD.out.below HO8.out.below)
      have HX8 := hid (HX3.out.below' HO8.out.below)
      clear g0 g1 g4 xc0 xc1 RA7 UT7 ltc
      have f0 : w8.cell? ⟨ba, 0, none⟩ = some (.int .i64 (d.b : Int)) := XA.out.cell 0
      have f1 : w8.cell? ⟨ba, 1, none⟩ = some (.int .i64 E1) := XA.out.cell 1
      have f3 : w8.cell? ⟨ba, 3, none⟩ = some (.int .i64 0) := XA.out.cell 3
      have f4 : w8.cell? ⟨ba, 4, none⟩ = some (.int .i64 0) := XA.out.cell 4
      have z3 := XA.out.frozen 3
      have nb1 : bx ≠ ba := by omega
      have nb2 : ba ≠ bx := by omega
      have nb3 : bc ≠ ba := by omega
      have nb4 : ba ≠ bc := by omega
      rcases hxok with ⟨hxc, a, hxa, ha0⟩ | ⟨hxc, hxa⟩
      · have hpb1 : true = pb := by rw [← hpb, hxc]; rfl
        subst hpb1
        clear hpb
        have HPUT := hid (show putD mm d = true by unfold putD; rw [HX1.out]; show (x.code == 0) = true; rw [hxc]; rfl)
        have HV := hid (show vOf mm d = a by unfold vOf; rw [HX1.out]; show (if isPut x = true then argV x else _) = a; rw [if_pos (by show (x.code == 0) = true; rw [hxc]; rfl)]; unfold argV; rw [if_pos (by show (x.code == 0) = true; rw [hxc]; rfl), hxa]; rfl)
        obtain ⟨bg, rfl, _, ra0⟩ := told_one RA8.out hxa
        have hLA21 : LA2 = 1 := by rw [← HLA2.out, hxa]; rfl
        subst hLA21
        have nb5 : bg ≠ ba := by have := HRAL.out bg rfl; have := HBA.out; omega
        have nb6 : ba ≠ bg := fun e => nb5 e.symm
        have f2 : w8.cell? ⟨ba, 2, none⟩ = some (.bool true) := XA.out.cell 2
        clear hxc hxa
        cases he : d.e with
        | none =>
          have hE : E1 = -1 := by rw [← HE1.out, he]; rfl
          subst hE
          have HACT := hid (oact_some (show refD mm d = false by unfold refD; rw [he]; simp))
          have HGA := hid (show gA ⟨d.b, d.e, putD mm d, vOf mm d, 0⟩ = [.int .i64 (d.b : Int), .int .i64 (-1), .bool true, .int .i64 a, .int .i64 0] by rw [HPUT.out, HV.out, he]; rfl)
          clear he
          go_upto_region 23 with fail
          obtain ⟨w9, hw9⟩ : ∃ w9, w8.setCell ⟨ba, 3, none⟩ (.int .i64 a) = w9 := ⟨_, rfl⟩
          rw [hw9]
          have XA9 := hid (show Blk w9 ba 52 #[.int .i64 (d.b : Int), .int .i64 (-1), .bool true, .int .i64 a, .int .i64 0] by rw [← hw9]; exact XA.out.set_ 3 (.int .i64 a))
          have HO9 := hid (show Ow w4 w9 52 5 gA (.slice A1 LA c1) ((ds.take k).filterMap (oact mm)) by rw [← hw9]; exact HO8.out.setA HNB.out HBA4.out 3 (.int .i64 a))
          clear hw9 f0 f1 f2 f3 f4 e0 e1 e4 xd0 xd1 XA
          have q0 : w9.cell? ⟨ba, 0, none⟩ = some (.int .i64 (d.b : Int)) := XA9.out.cell 0
          have q1 : w9.cell? ⟨ba, 1, none⟩ = some (.int .i64 (-1)) := XA9.out.cell 1
          have q2 : w9.cell? ⟨ba, 2, none⟩ = some (.bool true) := XA9.out.cell 2
          have q3 : w9.cell? ⟨ba, 3, none⟩ = some (.int .i64 a) := XA9.out.cell 3
          have q4 : w9.cell? ⟨ba, 4, none⟩ = some (.int .i64 0) := XA9.out.cell 4
          obtain ⟨y, hy⟩ : ∃ y, (ds.take k).filterMap (oact mm) ++ [⟨d.b, d.e, putD mm d, vOf mm d, 0⟩] = y := ⟨_, rfl⟩
          have HY := hid hy
          have HYE := hid (show y = (ds.take (k + 1)).filterMap (oact mm) by rw [← hy, oacts_some HDk.out HACT.out])
          have HYN := hid (show y.length = LA + 1 by rw [← hy, List.length_append, HLA.out]; rfl)
          have HFR := hid (show Sl (w9.alloc (.cells #[.int .i64 (d.b : Int), .int .i64 (-1), .bool true, .int .i64 a, .int .i64 0] 52)) 5 (some ⟨w9.heap.size, 0, none⟩) 1 ([(⟨d.b, d.e, putD mm d, vOf mm d, 0⟩ : LAct)].flatMap gA) by
            rw [List.flatMap_cons, List.flatMap_nil, List.append_nil, HGA.out]
            exact Sl.fresh w9 #[_, _, _, _, _] 52 5 1 rfl)
          clear hy
          go_wp2_with (at_builtin; refine wpList_appY elmA gA_one rfl (.tmp 122) (.tmp 124) rfl (.slice A1 LA c1) _ rfl (HO9.out.alloc _) [⟨d.b, d.e, putD mm d, vOf mm d, 0⟩] y HY rfl HFR.out rfl (by rw [HYN.out]; simp only [maxLen]; omega) (by rw [HYN.out]; omega) ?_; intro A4 c4 w10 hc4 hc5 HN1 _ _)
          go_roundw
          case rel => exact ⟨k + 1, A4, LA + 1, c4, by omega, by omega, by go_num, by rw [HYN.out], hid (by have h1 := HN1.out; rw [HYN.out] at h1; rw [← HYE.out]; exact h1)⟩
          case measure => simp [intOf]; omega
        | some e =>
          have hE : E1 = (e : Int) := by rw [← HE1.out, he]; rfl
          subst hE
          obtain ⟨v, htd, hv⟩ := HQ.out.told k d e HDk.out he
          obtain ⟨bt, rfl, _, t0⟩ := told_one UT8.out htd
          have hLT1 : LT = 1 := by rw [← HLT2.out, htd]; rfl
          subst hLT1
          have nb7 : bt ≠ ba := by have := HUTL.out bt rfl; have := HBA.out; omega
          have nb8 : ba ≠ bt := fun e => nb7 e.symm
          have en : ((e : Int) != -1) = true := bneT (by omega)
          have en2 : ¬ ((e : Int) = -1) := by omega
          rcases hv HPUT.out with rfl | rfl
          · have HFULL := hid (HQ.out.full k d e HDk.out he HPUT.out htd)
            have HACT := hid (oact_none (show refD mm d = true by unfold refD; rw [HPUT.out, he, htd]; rfl))
            have HE0 := hid he
            clear he htd hv
            go_upto_region 19 with fail
            obtain ⟨w9, hw9⟩ : ∃ w9, w8.setCell ⟨ba, 3, none⟩ (.int .i64 a) = w9 := ⟨_, rfl⟩
            rw [hw9]
            have HO9 := hid (show Ow w4 w9 52 5 gA (.slice A1 LA c1) ((ds.take k).filterMap (oact mm)) by rw [← hw9]; exact HO8.out.setA HNB.out HBA4.out 3 (.int .i64 a))
            clear hw9 f0 f1 f2 f3 f4 e0 e1 e4 xd0 xd1 XA
            have HM9 := hid (HM3.out.below HO9.out.below)
            have HX9 := hid (HX3.out.below' HO9.out.below)
            have HD9 := hid (show DsAt w.heap.size w9 _ LD rs from ⟨(HD.out.below HO9.out.below).len, own_lower (HD.out.below HO9.out.below).row HW2.out, fun x hx => own_lower ((HD.out.below HO9.out.below).told x hx) HW2.out⟩)
            have y0 : w9.cell? ⟨X, 0, none⟩ = some (.slice AW (2 * N + 2) cW) := HX9.out.cell 0
            have y1 : w9.cell? ⟨X, 1, none⟩ = some (.slice (some ⟨Cb, 0, none⟩) 2 2) := HX9.out.cell 1
            have y2 : w9.cell? ⟨X, 2, none⟩ = some (.slice (some ⟨T, 0, none⟩) 3 3) := HX9.out.cell 2
            have HTN := hid (turned_of w.heap.size (.slice AW (2 * N + 2) cW) Cb T cv1 tv (fun i => [spushCode, spopCode].getD i []) (oths 100 kinds 9) av (some ⟨b9, 0, none⟩) LD c3 rs ds mm k d e N)
            have HC20 := hid (show ∀ t, t < 3 → ((oths 100 kinds 9) t).length ≤ 20 from fun t ht => by rw [oths_len _ _ _ _ ht]; omega)
            have HTO := hid (show ∀ (k : Nat) (y : Dg) (e : Nat), ds[k]? = some y → y.e = some e → ∃ v, y.told = [v] from fun k y e g1 g2 => by obtain ⟨v, h, _⟩ := HQ.out.told k y e g1 g2; exact ⟨v, h⟩)
            go_wp2_with fail
            refine (HTN.out _ (HM9.out.below (by first | exact bnil _ | exact (bnil w9).drew)) (HD9.out.below (by first | exact bnil _ | exact (bnil w9).drew)) HDS.out (by omega) h8 HTHR.out HC20.out HDk.out HE0.out HPUT.out HQ.out.call HTO.out HFULL.out).mono ?_
            rintro e5 w5 ⟨rfl, b5⟩
            have HN5 := hid (show Ow w4 w5 52 5 gA (.slice A1 LA c1) ((ds.take (k + 1)).filterMap (oact mm)) by rw [oacts_none HDk.out HACT.out]; exact HO9.out.step (by first | exact b5 | exact bgo (bnil w9).drew b5))
            go_wp2_with fail
            go_roundw
            case rel => exact ⟨k + 1, A1, LA, c1, by omega, by omega, by go_num, rfl, HN5⟩
            case measure => simp [intOf]; omega
          · have HACT := hid (oact_some (show refD mm d = false by unfold refD; rw [htd]; simp))
            have HGA := hid (show gA ⟨d.b, d.e, putD mm d, vOf mm d, 0⟩ = [.int .i64 (d.b : Int), .int .i64 (e : Int), .bool true, .int .i64 a, .int .i64 0] by rw [HPUT.out, HV.out, he]; rfl)
            clear he htd hv
            go_upto_region 23 with fail
            obtain ⟨w9, hw9⟩ : ∃ w9, w8.setCell ⟨ba, 3, none⟩ (.int .i64 a) = w9 := ⟨_, rfl⟩
            rw [hw9]
            have XA9 := hid (show Blk w9 ba 52 #[.int .i64 (d.b : Int), .int .i64 (e : Int), .bool true, .int .i64 a, .int .i64 0] by rw [← hw9]; exact XA.out.set_ 3 (.int .i64 a))
            have HO9 := hid (show Ow w4 w9 52 5 gA (.slice A1 LA c1) ((ds.take k).filterMap (oact mm)) by rw [← hw9]; exact HO8.out.setA HNB.out HBA4.out 3 (.int .i64 a))
            clear hw9 f0 f1 f2 f3 f4 e0 e1 e4 xd0 xd1 XA
            have q0 : w9.cell? ⟨ba, 0, none⟩ = some (.int .i64 (d.b : Int)) := XA9.out.cell 0
            have q1 : w9.cell? ⟨ba, 1, none⟩ = some (.int .i64 (e : Int)) := XA9.out.cell 1
            have q2 : w9.cell? ⟨ba, 2, none⟩ = some (.bool true) := XA9.out.cell 2
            have q3 : w9.cell? ⟨ba, 3, none⟩ = some (.int .i64 a) := XA9.out.cell 3
            have q4 : w9.cell? ⟨ba, 4, none⟩ = some (.int .i64 0) := XA9.out.cell 4
            obtain ⟨y, hy⟩ : ∃ y, (ds.take k).filterMap (oact mm) ++ [⟨d.b, d.e, putD mm d, vOf mm d, 0⟩] = y := ⟨_, rfl⟩
            have HY := hid hy
            have HYE := hid (show y = (ds.take (k + 1)).filterMap (oact mm) by rw [← hy, oacts_some HDk.out HACT.out])
            have HYN := hid (show y.length = LA + 1 by rw [← hy, List.length_append, HLA.out]; rfl)
            have HFR := hid (show Sl (w9.alloc (.cells #[.int .i64 (d.b : Int), .int .i64 (e : Int), .bool true, .int .i64 a, .int .i64 0] 52)) 5 (some ⟨w9.heap.size, 0, none⟩) 1 ([(⟨d.b, d.e, putD mm d, vOf mm d, 0⟩ : LAct)].flatMap gA) by
              rw [List.flatMap_cons, List.flatMap_nil, List.append_nil, HGA.out]
              exact Sl.fresh w9 #[_, _, _, _, _] 52 5 1 rfl)
            clear hy
            go_wp2_with (at_builtin; refine wpList_appY elmA gA_one rfl (.tmp 122) (.tmp 124) rfl (.slice A1 LA c1) _ rfl (HO9.out.alloc _) [⟨d.b, d.e, putD mm d, vOf mm d, 0⟩] y HY rfl HFR.out rfl (by rw [HYN.out]; simp only [maxLen]; omega) (by rw [HYN.out]; omega) ?_; intro A4 c4 w10 hc4 hc5 HN1 _ _)
            go_roundw
            case rel => exact ⟨k + 1, A4, LA + 1, c4, by omega, by omega, by go_num, by rw [HYN.out], hid (by have h1 := HN1.out; rw [HYN.out] at h1; rw [← HYE.out]; exact h1)⟩
            case measure => simp [intOf]; omega
      · have hpb1 : false = pb := by rw [← hpb, hxc]; rfl
        subst hpb1
        clear hpb
        have HPUT := hid (show putD mm d = false by unfold putD; rw [HX1.out]; show (x.code == 0) = false; rw [hxc]; rfl)
        have f2 : w8.cell? ⟨ba, 2, none⟩ = some (.bool false) := XA.out.cell 2
        cases he : d.e with
        | none =>
          have hE : E1 = -1 := by rw [← HE1.out, he]; rfl
          subst hE
          have HACT := hid (oact_some (show refD mm d = false by unfold refD; rw [he]; simp))
          have HGA := hid (show gA ⟨d.b, d.e, putD mm d, vOf mm d, 0⟩ = [.int .i64 (d.b : Int), .int .i64 (-1), .bool false, .int .i64 0, .int .i64 0] by
            have hv0 : vOf mm d = 0 := by unfold vOf; rw [HX1.out, he]; show (if isPut x = true then argV x else _) = 0; rw [if_neg (by show ¬ (x.code == 0) = true; rw [hxc]; decide)]; rfl
            rw [HPUT.out, hv0, he]; rfl)
          clear he hxc hxa
          go_upto_region 23 with fail
          obtain ⟨w9, hw9⟩ : ∃ w9, w8 = w9 := ⟨_, rfl⟩
          rw [hw9]
          have XA9 := hid (show Blk w9 ba 52 #[.int .i64 (d.b : Int), .int .i64 (-1), .bool false, .int .i64 0, .int .i64 0] by rw [← hw9]; exact XA.out)
          have HO9 := hid (show Ow w4 w9 52 5 gA (.slice A1 LA c1) ((ds.take k).filterMap (oact mm)) by rw [← hw9]; exact HO8.out)
          clear hw9 f0 f1 f2 f3 f4 e0 e1 e4 xd0 xd1 XA
          have q0 : w9.cell? ⟨ba, 0, none⟩ = some (.int .i64 (d.b : Int)) := XA9.out.cell 0
          have q1 : w9.cell? ⟨ba, 1, none⟩ = some (.int .i64 (-1)) := XA9.out.cell 1
          have q2 : w9.cell? ⟨ba, 2, none⟩ = some (.bool false) := XA9.out.cell 2
          have q3 : w9.cell? ⟨ba, 3, none⟩ = some (.int .i64 0) := XA9.out.cell 3
          have q4 : w9.cell? ⟨ba, 4, none⟩ = some (.int .i64 0) := XA9.out.cell 4
          obtain ⟨y, hy⟩ : ∃ y, (ds.take k).filterMap (oact mm) ++ [⟨d.b, d.e, putD mm d, vOf mm d, 0⟩] = y := ⟨_, rfl⟩
          have HY := hid hy
          have HYE := hid (show y = (ds.take (k + 1)).filterMap (oact mm) by rw [← hy, oacts_some HDk.out HACT.out])
          have HYN := hid (show y.length = LA + 1 by rw [← hy, List.length_append, HLA.out]; rfl)
          have HFR := hid (show Sl (w9.alloc (.cells #[.int .i64 (d.b : Int), .int .i64 (-1), .bool false, .int .i64 0, .int .i64 0] 52)) 5 (some ⟨w9.heap.size, 0, none⟩) 1 ([(⟨d.b, d.e, putD mm d, vOf mm d, 0⟩ : LAct)].flatMap gA) by
            rw [List.flatMap_cons, List.flatMap_nil, List.append_nil, HGA.out]
            exact Sl.fresh w9 #[_, _, _, _, _] 52 5 1 rfl)
          clear hy
          go_wp2_with (at_builtin; refine wpList_appY elmA gA_one rfl (.tmp 122) (.tmp 124) rfl (.slice A1 LA c1) _ rfl (HO9.out.alloc _) [⟨d.b, d.e, putD mm d, vOf mm d, 0⟩] y HY rfl HFR.out rfl (by rw [HYN.out]; simp only [maxLen]; omega) (by rw [HYN.out]; omega) ?_; intro A4 c4 w10 hc4 hc5 HN1 _ _)
          go_roundw
          case rel => exact ⟨k + 1, A4, LA + 1, c4, by omega, by omega, by go_num, by rw [HYN.out], hid (by have h1 := HN1.out; rw [HYN.out] at h1; rw [← HYE.out]; exact h1)⟩
          case measure => simp [intOf]; omega
        | some e =>
          have hE : E1 = (e : Int) := by rw [← HE1.out, he]; rfl
          subst hE
          obtain ⟨v, htd, _⟩ := HQ.out.told k d e HDk.out he
          obtain ⟨bt, rfl, _, t0⟩ := told_one UT8.out htd
          have hLT1 : LT = 1 := by rw [← HLT2.out, htd]; rfl
          subst hLT1
          have nb7 : bt ≠ ba := by have := HUTL.out bt rfl; have := HBA.out; omega
          have nb8 : ba ≠ bt := fun e => nb7 e.symm
          have en : ((e : Int) != -1) = true := bneT (by omega)
          have en2 : ¬ ((e : Int) = -1) := by omega
          have HACT := hid (oact_some (show refD mm d = false by unfold refD; rw [HPUT.out]; rfl))
          have HGA := hid (show gA ⟨d.b, d.e, putD mm d, vOf mm d, 0⟩ = [.int .i64 (d.b : Int), .int .i64 (e : Int), .bool false, .int .i64 v, .int .i64 0] by
            have hv0 : vOf mm d = v := by unfold vOf; rw [HX1.out, he, htd]; show (if isPut x = true then argV x else _) = v; rw [if_neg (by show ¬ (x.code == 0) = true; rw [hxc]; decide)]; rfl
            rw [HPUT.out, hv0, he]; rfl)
          clear he htd hxc hxa
          go_upto_region 23 with fail
          obtain ⟨w9, hw9⟩ : ∃ w9, w8.setCell ⟨ba, 3, none⟩ (.int .i64 v) = w9 := ⟨_, rfl⟩
          rw [hw9]
          have XA9 := hid (show Blk w9 ba 52 #[.int .i64 (d.b : Int), .int .i64 (e : Int), .bool false, .int .i64 v, .int .i64 0] by rw [← hw9]; exact XA.out.set_ 3 (.int .i64 v))
          have HO9 := hid (show Ow w4 w9 52 5 gA (.slice A1 LA c1) ((ds.take k).filterMap (oact mm)) by rw [← hw9]; exact HO8.out.setA HNB.out HBA4.out 3 (.int .i64 v))
          clear hw9 f0 f1 f2 f3 f4 e0 e1 e4 xd0 xd1 XA
          have q0 : w9.cell? ⟨ba, 0, none⟩ = some (.int .i64 (d.b : Int)) := XA9.out.cell 0
          have q1 : w9.cell? ⟨ba, 1, none⟩ = some (.int .i64 (e : Int)) := XA9.out.cell 1
          have q2 : w9.cell? ⟨ba, 2, none⟩ = some (.bool false) := XA9.out.cell 2
          have q3 : w9.cell? ⟨ba, 3, none⟩ = some (.int .i64 v) := XA9.out.cell 3
          have q4 : w9.cell? ⟨ba, 4, none⟩ = some (.int .i64 0) := XA9.out.cell 4
          obtain ⟨y, hy⟩ : ∃ y, (ds.take k).filterMap (oact mm) ++ [⟨d.b, d.e, putD mm d, vOf mm d, 0⟩] = y := ⟨_, rfl⟩
          have HY := hid hy
          have HYE := hid (show y = (ds.take (k + 1)).filterMap (oact mm) by rw [← hy, oacts_some HDk.out HACT.out])
          have HYN := hid (show y.length = LA + 1 by rw [← hy, List.length_append, HLA.out]; rfl)
          have HFR := hid (show Sl (w9.alloc (.cells #[.int .i64 (d.b : Int), .int .i64 (e : Int), .bool false, .int .i64 v, .int .i64 0] 52)) 5 (some ⟨w9.heap.size, 0, none⟩) 1 ([(⟨d.b, d.e, putD mm d, vOf mm d, 0⟩ : LAct)].flatMap gA) by
            rw [List.flatMap_cons, List.flatMap_nil, List.append_nil, HGA.out]
            exact Sl.fresh w9 #[_, _, _, _, _] 52 5 1 rfl)
          clear hy
          go_wp2_with (at_builtin; refine wpList_appY elmA gA_one rfl (.tmp 122) (.tmp 124) rfl (.slice A1 LA c1) _ rfl (HO9.out.alloc _) [⟨d.b, d.e, putD mm d, vOf mm d, 0⟩] y HY rfl HFR.out rfl (by rw [HYN.out]; simp only [maxLen]; omega) (by rw [HYN.out]; omega) ?_; intro A4 c4 w10 hc4 hc5 HN1 _ _)
          go_roundw
          case rel => exact ⟨k + 1, A4, LA + 1, c4, by omega, by omega, by go_num, by rw [HYN.out], hid (by have h1 := HN1.out; rw [HYN.out] at h1; rw [← HYE.out]; exact h1)⟩
          case measure => simp [intOf]; omega
    · obtain rfl : k = LD := by omega
      have j1 : ¬ (k : Int) < (k : Int) := by omega
      have HOF := hid (show Ow w4 wr 52 5 gA (.slice A1 LA c1) (ds.filterMap (oact mm)) by have h := HO.out; rw [List.take_of_length_le (by rw [HLEN.out]; exact Nat.le_refl _)] at h; exact h)
      obtain ⟨A1', c1', e1, hc1, hc1'⟩ := HOF.out.form
      injection e1 with e1 e2 e3
      have hcl : LA ≤ c1 := by omega
      have hcm : c1 ≤ maxLen := by omega
      clear e1 e3
      have HLAE := hid e2
      have HACTS := hid (show ActsAt wr A1 LA (ds.filterMap (oact mm)) from ⟨e2.symm, HOF.out.sl, fun a ha => by
        obtain ⟨d, hd, hda⟩ := List.mem_filterMap.1 ha
        unfold oact at hda
        split at hda
        · cases hda
        · injection hda with hda; rw [← hda]; exact ⟨Int.le_refl 0, by show (0 : Int) ≤ 5; omega, fun _ => rfl⟩⟩)
      have HLIN := hid (show LinO false LA [] (ds.filterMap (oact mm)) by have h := HQ.out.lin; rw [← e2] at h; exact h)
      have HBW := hid (bgo B03.out HO.out.below)
      clear hc1 hc1' e2
      go_wp2_with fail
      refine (linear_obj false LA [] (ds.filterMap (oact mm)) none 0 0 A1 c1 wr hcl hcm (by omega) (Nat.le_refl _) (Nat.zero_le _) (by omega) (sl0 _) HACTS.out).mono ?_
      rintro e5 w5 ⟨b5, rfl, hb5, bb5⟩
      have hbt := hb5 HLIN.out
      subst hbt
      go_wp2_with fail
      go_ret
      exact ⟨rfl, bgo HBW.out bb5⟩
end
end Go.Proofs.YtbcjgnigdddlkaaDoor
