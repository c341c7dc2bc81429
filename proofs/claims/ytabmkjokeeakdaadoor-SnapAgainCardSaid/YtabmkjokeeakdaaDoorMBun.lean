/-
  All that a maker of a machine has in memory while threads' calls are appended, in one bundle.
-/
import Derived.Test.YtabmkjokeeakdaaDoorMachN
import Derived.Test.YtabmkjokeeakdaaDoorInv
import Derived.Test.YtabmkjokeeakdaaDoorAsm3
namespace Go.Proofs.YtabmkjokeeakdaaDoor
open Go.RowKit
set_option linter.unusedVariables false

abbrev nil3 : Array Value := #[.slice none 0 0, .slice none 0 0, .slice none 0 0]
structure MBun (W0 w : World) (g0 : Nat) (cs0 : Array Value) (R X Cb T nc nt : Nat) (Wv : Value) (ws : List Int) (cv : Nat → Value) (ks : Nat → List Op5) (tv : Nat → Value) (th : Nat → List VCall) (av : Nat → List SV) : Prop where
  below : Below W0.heap.size W0 w
  hg : Blk w g0 29 cs0
  hr : Blk w R 29 nil3
  hx : Blk w X 29 #[Wv, .slice (some ⟨Cb, 0, none⟩) nc nc, .slice (some ⟨T, 0, none⟩) nt nt]
  own : w.ownsRow W0.heap.size 3 1 Wv ws.length (ws.flatMap gI)
  mn : MN W0.heap.size w nc nt Cb T cv ks tv th av
/-- thread j's row, ahead of an append -/
structure ARow (W0 wr : World) (X T j nt L : Nat) (Aj : Option Addr) (cj : Nat) (l : List (VCall × SV)) : Prop where
  size : W0.heap.size ≤ wr.heap.size
  c2 : wr.cell? ⟨X, 2, none⟩ = some (.slice (some ⟨T, 0, none⟩) nt nt)
  c3 : wr.cell? ⟨T, j, none⟩ = some (.slice Aj L cj)
  f3 : wr.frozen? ⟨T, j, none⟩ = false
  len : l.length = L
  hcj : L ≤ cj
  hcm : cj ≤ maxLen
  row : ∀ w', Below wr.heap.size wr w' → w'.ownsRow W0.heap.size 35 2 (.slice Aj L cj) l.length (l.flatMap gS)
  grow : ∀ wA w6, Below wr.heap.size wr wA → wA.grownBy w6 (Value.slice Aj L cj).ownBlock → (w6.cell? ⟨X, 2, none⟩ = some (.slice (some ⟨T, 0, none⟩) nt nt) ∧ w6.frozen? ⟨T, j, none⟩ = false) ∧ w6.cell? ⟨T, j, none⟩ = some (.slice Aj L cj) ∧
      ∀ v, ((w6.setCell ⟨T, j, none⟩ v).cell? ⟨X, 2, none⟩ = some (.slice (some ⟨T, 0, none⟩) nt nt) ∧ (w6.setCell ⟨T, j, none⟩ v).frozen? ⟨T, j, none⟩ = false)
section
variable {W0 w w' : World} {g0 : Nat} {cs0 : Array Value} {R X Cb T nc nt : Nat} {Wv : Value} {ws : List Int} {cv : Nat → Value} {ks : Nat → List Op5} {tv : Nat → Value} {th : Nat → List VCall} {av : Nat → List SV}
theorem MBun.step (h : MBun W0 w g0 cs0 R X Cb T nc nt Wv ws cv ks tv th av) (hb : Below w.heap.size w w') : MBun W0 w' g0 cs0 R X Cb T nc nt Wv ws cv ks tv th av :=
  ⟨bgo h.below hb, h.hg.below' hb, h.hr.below' hb, h.hx.below' hb, own_below h.own hb, h.mn.below hb⟩
theorem MBun.row (h : MBun W0 w g0 cs0 R X Cb T nc nt Wv ws cv ks tv th av) {j : Nat} (hj : j < nt) : ∃ (Aj : Option Addr) (cj : Nat), tv j = .slice Aj (th j).length cj ∧ ARow W0 w X T j nt (th j).length Aj cj ((th j).zip (av j)) := by
  have hrow := h.mn.rows j hj
  obtain ⟨Aj, cj, hAj, hcj1, hcj2⟩ := own_form hrow.2.1
  have hlen : ((th j).zip (av j)).length = (th j).length := by rw [List.length_zip, hrow.1, Nat.min_self]
  refine ⟨Aj, cj, hAj, h.below.size, h.hx.cell 2, ?_, h.mn.tb.frozen j, hlen, hcj1, hcj2, fun w' hb => ?_, fun wA w6 hb hG => ?_⟩
  · rw [h.mn.tb.cell j, arrN_at tv hj, hAj]
  · have h1 := own_below hrow.2.1 hb
    rw [hAj] at h1
    rw [hlen]
    exact h1
  · rw [← hAj] at hG
    obtain ⟨g1, g2⟩ := h.mn.grown hj hb hG
    have gX := g2 (by decide) h.hx
    exact ⟨⟨gX.cell 2, g1.frozen j⟩, by rw [g1.cell j, arrN_at tv hj, hAj], fun v => ⟨(gX.far (p := ⟨T, j, none⟩) (gX.ne_ g1 (by decide)) v).cell 2, (g1.set_ j v).frozen j⟩⟩
/-- behind an append -/
theorem MBun.app (h : MBun W0 w g0 cs0 R X Cb T nc nt Wv ws cv ks tv th av) {j : Nat} (hj : j < nt) {wA w6 : World} {v' : Value} (cs : List VCall) (as_ : List SV) {y : List (VCall × SV)}
    (hb : Below w.heap.size w wA) (hl : as_.length = cs.length) (ha : ∀ (k : Nat) (c : VCall) (a : SV), cs[k]? = some c → as_[k]? = some a → wA.ownsRow W0.heap.size 3 1 a.v c.args.length (c.args.flatMap gI)) (hy : (th j).zip (av j) ++ cs.zip as_ = y)
    (hG : wA.grownBy w6 (tv j).ownBlock) (hv : v'.ownBlock = (tv j).ownBlock ∨ v'.ownBlock = some wA.heap.size) (hr : w6.ownsRow W0.heap.size 35 2 v' y.length (y.flatMap gS)) :
    MBun W0 (w6.setCell ⟨T, j, none⟩ v') g0 cs0 R X Cb T nc nt Wv ws cv ks (upd tv j v') (upd th j (th j ++ cs)) (upd av j (av j ++ as_)) := by
  obtain ⟨g1, g2⟩ := h.mn.grown hj hb hG
  have far : ∀ {g : Nat} {cs : Array Value}, Blk w g 29 cs → Blk (w6.setCell ⟨T, j, none⟩ v') g 29 cs := fun hx => (g2 (by decide) hx).far (p := ⟨T, j, none⟩) ((g2 (by decide) hx).ne_ g1 (by decide)) v'
  exact ⟨(h.mn.chg hj hb hG h.below rfl v').2, far h.hg, far h.hr, far h.hx, h.mn.other hj hb hG h.own (by decide) (by decide) v', h.mn.snoc hj cs as_ hb hl ha hy hG hv hr⟩
/-- a cell of a code -/
theorem MBun.setop (h : MBun W0 w g0 cs0 R X Cb T nc nt Wv ws cv ks tv th av) {i0 bk n c k j : Nat} (hi0 : i0 < nc) (hcv : cv i0 = .slice (some ⟨bk, 0, none⟩) n c) (hn : (ks i0).length = n) (hap : ∀ i, i < nc → i ≠ i0 → (cv i).ownBlock ≠ some bk) {x y : Op5} {u : Value}
    (hx : (ks i0)[k]? = some x) (hj : j < 5) (hy : gO y = (gO x).set j u) :
    MBun W0 (w.setCell ⟨bk, k * 5 + j, none⟩ u) g0 cs0 R X Cb T nc nt Wv ws cv (upd ks i0 ((ks i0).set k y)) tv th av := by
  have ho := h.mn.os i0 hi0
  rw [hcv, hn] at ho
  obtain ⟨h1, _⟩ := own_setG (g := gO) (fun _ => rfl) ho hx hj hy
  have hb : (Value.slice (some ⟨bk, 0, none⟩) n c).ownBlock = some bk := rfl
  have hge := (own_ge ho bk rfl).1
  have hS : Chg (fun k => k = bk) w (w.setCell ⟨bk, k * 5 + j, none⟩ u) := (Chg.refl (fun k => k = bk) w).setCell (p := ⟨bk, k * 5 + j, none⟩) (fun _ => rfl) _
  have bkey : ∀ {g t : Nat} {cs : Array Value}, t ≠ 99 → Blk w g t cs → Blk (w.setCell ⟨bk, k * 5 + j, none⟩ u) g t cs := fun h1 h2 => hS.blk h2 fun e => own_ne_blk ho h2 (Ne.symm h1) (by rw [hb, e])
  have okey : ∀ {B' e sz n' : Nat} {v : Value} {xs : List Value}, e ≠ 99 → w.ownsRow B' e sz v n' xs → (w.setCell ⟨bk, k * 5 + j, none⟩ u).ownsRow B' e sz v n' xs := fun h1 h2 => own_chg h2 hS fun k' hk' e => h1 (own_ty h2 ho hk' (by rw [hb, e]))
  refine ⟨h.below.setCell (p := ⟨bk, k * 5 + j, none⟩) hge u, bkey (by decide) h.hg, bkey (by decide) h.hr, bkey (by decide) h.hx, okey (by decide) h.own, ⟨h.mn.geC, h.mn.geT, bkey (by decide) h.mn.cb, bkey (by decide) h.mn.tb, fun i hi => ?_, fun j' hj' => ?_, h.mn.dist⟩⟩
  · by_cases e : i = i0
    · subst e
      rw [upd_same, hcv, List.length_set, hn]
      exact h1
    · rw [upd_ne _ _ _ _ e]
      exact own_chg (h.mn.os i hi) hS fun k' hk' e2 => hap i hi e (by rw [hk', e2])
  · obtain ⟨r1, r2, r3⟩ := h.mn.rows j' hj'
    exact ⟨r1, okey (by decide) r2, fun a b c ha hb => okey (by decide) (r3 a b c ha hb)⟩
/-- an operation of a code -/
theorem MBun.op5 (h : MBun W0 w g0 cs0 R X Cb T nc nt Wv ws cv ks tv th av) {i0 bk n c k : Nat} (hi0 : i0 < nc) (hcv : cv i0 = .slice (some ⟨bk, 0, none⟩) n c) (hn : (ks i0).length = n) (hap : ∀ i, i < nc → i ≠ i0 → (cv i).ownBlock ≠ some bk) (hk : k < n) (o : Op5) :
    MBun W0 (((((w.setCell ⟨bk, k * 5, none⟩ (.int .i64 o.k)).setCell ⟨bk, k * 5 + 1, none⟩ (.int .i64 o.a)).setCell ⟨bk, k * 5 + 2, none⟩ (.int .i64 o.b)).setCell ⟨bk, k * 5 + 3, none⟩ (.int .i64 o.c)).setCell ⟨bk, k * 5 + 4, none⟩ (.int .i64 o.d)) g0 cs0 R X Cb T nc nt Wv ws cv (upd ks i0 ((ks i0).set k o)) tv th av := by
  obtain ⟨x, hx⟩ : ∃ x, (ks i0)[k]? = some x := ⟨_, List.getElem?_eq_getElem (by omega)⟩
  have hu : ∀ (f : Nat → List Op5) (l1 l2 : List Op5), upd (upd f i0 l1) i0 l2 = upd f i0 l2 := by intro f l1 l2; funext j; unfold upd; split <;> rfl
  have hg : ∀ y : Op5, ((ks i0).set k y)[k]? = some y := fun y => List.getElem?_set_self (by omega)
  have h1 := h.setop (j := 0) (y := { x with k := o.k }) (u := .int .i64 o.k) hi0 hcv hn hap hx (by decide) rfl
  have h2 := h1.setop (k := k) (x := { x with k := o.k }) (j := 1) (y := { x with k := o.k, a := o.a }) (u := .int .i64 o.a) hi0 hcv (by rw [upd_same, List.length_set]; exact hn) hap (by rw [upd_same]; exact hg _) (by decide) rfl
  rw [upd_same, List.set_set, hu] at h2
  have h3 := h2.setop (k := k) (x := { x with k := o.k, a := o.a }) (j := 2) (y := { x with k := o.k, a := o.a, b := o.b }) (u := .int .i64 o.b) hi0 hcv (by rw [upd_same, List.length_set]; exact hn) hap (by rw [upd_same]; exact hg _) (by decide) rfl
  rw [upd_same, List.set_set, hu] at h3
  have h4 := h3.setop (k := k) (x := { x with k := o.k, a := o.a, b := o.b }) (j := 3) (y := { x with k := o.k, a := o.a, b := o.b, c := o.c }) (u := .int .i64 o.c) hi0 hcv (by rw [upd_same, List.length_set]; exact hn) hap (by rw [upd_same]; exact hg _) (by decide) rfl
  rw [upd_same, List.set_set, hu] at h4
  have h5 := h4.setop (k := k) (x := { x with k := o.k, a := o.a, b := o.b, c := o.c }) (j := 4) (y := o) (u := .int .i64 o.d) hi0 hcv (by rw [upd_same, List.length_set]; exact hn) hap (by rw [upd_same]; exact hg _) (by decide) rfl
  rw [upd_same, List.set_set, hu] at h5
  exact h5
/-- what a maker gives back: the result cell R is written last -/
structure MEnd (W0 w : World) (g0 : Nat) (cs0 : Array Value) (Cb T nc nt : Nat) (Wv : Value) (ws : List Int) (cv : Nat → Value) (ks : Nat → List Op5) (tv : Nat → Value) (th : Nat → List VCall) (av : Nat → List SV) : Prop where
  below : Below W0.heap.size W0 w
  hg : Blk w g0 29 cs0
  own : w.ownsRow W0.heap.size 3 1 Wv ws.length (ws.flatMap gI)
  mn : MN W0.heap.size w nc nt Cb T cv ks tv th av
theorem MBun.fin (h : MBun W0 w g0 cs0 R X Cb T nc nt Wv ws cv ks tv th av) (hg : g0 ≠ R) (hR : W0.heap.size ≤ R) (a b c : Value) :
    MEnd W0 (((w.setCell ⟨R, 0, none⟩ a).setCell ⟨R, 1, none⟩ b).setCell ⟨R, 2, none⟩ c) g0 cs0 Cb T nc nt Wv ws cv ks tv th av :=
  ⟨((h.below.setCell (p := ⟨R, 0, none⟩) hR a).setCell (p := ⟨R, 1, none⟩) hR b).setCell (p := ⟨R, 2, none⟩) hR c, (chg3 (R := R) w a b c).blk h.hg hg, own_res h.own h.hr (by decide) a b c, h.mn.res h.hr a b c⟩
theorem MEnd.step (h : MEnd W0 w g0 cs0 Cb T nc nt Wv ws cv ks tv th av) (hb : Below w.heap.size w w') : MEnd W0 w' g0 cs0 Cb T nc nt Wv ws cv ks tv th av :=
  ⟨bgo h.below hb, h.hg.below' hb, own_below h.own hb, h.mn.below hb⟩
end
theorem one_own2 {B : Nat} {w : World} (cc : Nat) : ∀ (k : Nat) (c : VCall) (a : SV), ([⟨cc, []⟩] : List VCall)[k]? = some c → ([⟨none, 0, 0⟩] : List SV)[k]? = some a → w.ownsRow B 3 1 a.v c.args.length (c.args.flatMap gI) := by
  intro k c a hc ha
  rw [List.getElem?_singleton] at hc ha
  split at hc
  · rename_i h; rw [if_pos h] at ha
    injection hc with hc; injection ha with ha
    subst hc ha
    exact own0 w B _ 1
  · cases hc
theorem madeOps (n : Nat) : madeCells #[.int .i64 0, .int .i64 0, .int .i64 0, .int .i64 0, .int .i64 0] (n * 5) = ((List.replicate n (⟨0, 0, 0, 0, 0⟩ : Op5)).flatMap gO).toArray := by
  have h2 : (List.replicate n (⟨0, 0, 0, 0, 0⟩ : Op5)).flatMap gO = List.replicate (n * 5) (.int .i64 0) := by
    induction n with
    | zero => rfl
    | succ n ih => rw [List.replicate_succ, List.flatMap_cons, ih, Nat.succ_mul, Nat.add_comm, ← List.replicate_append_replicate]; rfl
  rw [h2]
  apply Array.ext_getElem?
  intro i
  by_cases hi : i < n * 5
  · have h5 : i % 5 < 5 := Nat.mod_lt _ (by decide)
    have : ∀ k, k < 5 → (#[Value.int .i64 0, .int .i64 0, .int .i64 0, .int .i64 0, .int .i64 0] : Array Value)[k]! = .int .i64 0 := by
      intro k hk
      match k, hk with
      | 0, _ => rfl
      | 1, _ => rfl
      | 2, _ => rfl
      | 3, _ => rfl
      | 4, _ => rfl
    simp [madeCells, hi]
    have h9 := this (i % 5) h5
    simpa using h9
  · simp [madeCells, hi]
/-- a row of operations: make -/
theorem mkOps (w : World) (n : Nat) (hn : n ≤ 1000) : (Instr.makeSlice 60 (.int .i64 (n : Int)) (.int .i64 (n : Int))).run Tryd.prog w = .ok (.slice (some ⟨w.heap.size, 0, none⟩) n n) (w.alloc (.cells (((List.replicate n (⟨0, 0, 0, 0, 0⟩ : Op5)).flatMap gO).toArray) 99)) := by
  have hinfo : (Tryd.prog.info? 99).map (fun i => (i.zero, i.size, i.bytes)) = some (some (.agg #[.int .i64 0, .int .i64 0, .int .i64 0, .int .i64 0, .int .i64 0]), 5, 40) := by kernel_rfl
  obtain ⟨i, hi, hzz⟩ := Option.map_eq_some_iff.1 hinfo
  simp only [Prod.mk.injEq] at hzz
  obtain ⟨hz, hs, hb⟩ := hzz
  have hr := run_make (P := Tryd.prog) w 60 99 i _ Tryd.underlying60 hi hz .i64 .i64 n n (by omega) (Int.le_refl _) (by rw [hb]; omega) (by omega)
  rw [hs, Int.toNat_natCast] at hr
  rw [← madeOps]
  exact hr
end Go.Proofs.YtabmkjokeeakdaaDoor
