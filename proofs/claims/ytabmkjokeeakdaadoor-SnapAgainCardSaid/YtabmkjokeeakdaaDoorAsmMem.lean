/-
  Package asm: a code that is put together, in memory.
-/
import Derived.Test.YtabmkjokeeakdaaDoorAsmMath
import Derived.Test.YtabmkjokeeakdaaDoorRunMem
import Derived.Maps.OwnSet
import Derived.Maps.OwnOps
import Derived.Deep.RegionHeld3
import Derived.Deep.RegionLaw
namespace Go.Proofs.YtabmkjokeeakdaaDoor
open Go.RowKit Go.Maps
set_option linter.unusedVariables false

abbrev gJ : Nat × Nm → List Value := fun x => [.int .i64 (x.1 : Int), .string ⟨x.2.toArray⟩]
theorem gJ_one (x : Nat × Nm) : ∀ u ∈ gJ x, u.oneCell' = true := by intro u hu; simp at hu; rcases hu with rfl | rfl <;> rfl
theorem elmOp : Elm Tryd.prog 60 99 5 40 := elm_of (z := .agg #[.int .i64 0, .int .i64 0, .int .i64 0, .int .i64 0, .int .i64 0]) Tryd.underlying60 (by kernel_rfl) rfl (by decide)
theorem gOp_one (x : Op5) : ∀ u ∈ gO x, u.oneCell' = true := by intro u hu; simp at hu; rcases hu with rfl | rfl | rfl | rfl | rfl <;> rfl
theorem elmJ : Elm Tryd.prog 109 113 2 24 := elm_of (z := .agg #[.int .i64 0, .string ⟨#[]⟩]) Tryd.underlying109 (by kernel_rfl) rfl (by decide)
theorem blkN (w : World) (t : TypeId) (cs : Array Value) (g : Nat) (h : w.heap.size = g) : Blk (w.alloc (.cells cs t)) g t cs := by subst h; exact Blk.new w t cs
theorem step_appC {P : Program} {w : World} {t e : TypeId} {sz bytes : Nat} (E : Elm P t e sz bytes) {α : Type} {g : α → List Value} (hg : ∀ x, ∀ u ∈ g x, u.oneCell' = true) {ops : Array Oper} {o : Oper} {a : Act} {K : Act → World → Prop} {Q : Exit → Act → World → Prop} {D : Prop} (hw : Region.wanted o (yielded ops a.tmps) = true) (s x : Operand)
    (ho : o.op = .call { callee := .builtin .append, args := #[s, x], argTypes := #[t, t] })
    {base : Nat} (v : Value) (l : List α) (hs : a.eval s = v) (hown : w.ownsRow base e sz v l.length (l.flatMap g))
    {A : Option Addr} {n c : Nat} (m y : List α) (hy : Hid (l ++ m = y)) (hx : a.eval x = .slice A n c) (hr : Sl w sz A n (m.flatMap g)) (hn : m.length = n)
    (h63 : y.length ≤ maxLen) (hbytes : y.length * bytes ≤ 140737488355328) (hbase : base ≤ w.heap.size)
    (h : ∀ A' c' w', y.length ≤ c' → c' ≤ maxLen → Hid (w'.ownsRow base e sz (.slice A' y.length c') y.length (y.flatMap g)) → Hid (w.grownBy w' v.ownBlock) → Hid ((Value.slice A' y.length c').ownBlock = v.ownBlock ∨ (Value.slice A' y.length c').ownBlock = some w.heap.size) → K (a.put o.dst (.slice A' y.length c')) w') :
    if Region.wanted o (yielded ops a.tmps) = true then Oper.wp P o a w K Q else D := by
  rw [if_pos hw]
  have hy' : l ++ m = y := hy
  subst hy'
  subst hn
  rw [List.length_append] at h63 hbytes
  obtain ⟨i, z, hi, hz, hz1, hz2, hz3⟩ := E.ex
  refine wp_append_sl w s x t ho base e i z sz bytes E.ht hi hz hz1 hz2 hz3 E.pos v l.length (l.flatMap g) hs hown A m.length c (m.flatMap g) hx hr (flat_one g hg m) h63 hbytes hbase fun v' w' h1 h2 h3 => ?_
  rw [← List.flatMap_append, ← List.length_append] at h1
  obtain ⟨A', c', rfl, hc1, hc2⟩ := own_form h1
  exact h A' c' w' hc1 hc2 h1 h2 h3
theorem kStr : Keyed Tryd.prog 9 := string_keyed Tryd.underlying9
abbrev OM (w : World) (b n : Nat) (l : List (Nm × Nat)) : Prop := w.ownsMap Tryd.prog 9 (plainElem (H := Unit) Tryd.prog 3) b n (mapOf l)
theorem zeroI (w : World) : (zeroValue 3).run Tryd.prog w = .ok (.int .i64 0) w := by kernel_rfl
theorem map_chg {H : Type} {w w' : World} {P : Program} {k : TypeId} {R : Value → Option (DataW H × List MemPlace)} {b n : Nat} {D : DataW H} {M : Nat → Prop} (h : w.ownsMap P k R b n D) (hc : Chg M w w') (hM : ¬ M b) : w'.ownsMap P k R b n D := by
  have hlt := h.lt
  obtain ⟨es, clock, hb, r⟩ := h
  exact ⟨es, clock, (hc.block b hlt hM).trans hb, r⟩
theorem map_below {H : Type} {w w' : World} {P : Program} {k : TypeId} {R : Value → Option (DataW H × List MemPlace)} {b n : Nat} {D : DataW H} (h : w.ownsMap P k R b n D) (hb : Below w.heap.size w w') : w'.ownsMap P k R b n D := by
  have hlt := h.lt
  obtain ⟨es, clock, h1, r⟩ := h
  exact ⟨es, clock, (hb.block b hlt).trans h1, r⟩
theorem own_ne_map {H : Type} {w : World} {B e sz : Nat} {v : Value} {n : Nat} {xs : List Value} {P : Program} {k : TypeId} {R : Value → Option (DataW H × List MemPlace)} {b m : Nat} {D : DataW H} (h : w.ownsRow B e sz v n xs) (hm : w.ownsMap P k R b m D) : v.ownBlock ≠ some b := by
  obtain ⟨es, clock, h1, _⟩ := hm
  rcases h.2 with ⟨rfl, _⟩ | ⟨g, cap, cur, rfl, _, hh, _⟩
  · simp [Value.ownBlock]
  · intro he
    obtain rfl : g = b := by simpa [Value.ownBlock] using he
    rw [hh] at h1; cases h1
theorem blk_ne_map {H : Type} {w : World} {g t : Nat} {cs : Array Value} {P : Program} {k : TypeId} {R : Value → Option (DataW H × List MemPlace)} {b m : Nat} {D : DataW H} (h : Blk w g t cs) (hm : w.ownsMap P k R b m D) : g ≠ b := by
  obtain ⟨es, clock, h1, _⟩ := hm
  rintro rfl
  unfold Blk at h
  rw [h] at h1; cases h1
structure ACm (B : Nat) (w : World) (g : Nat) (a : AC) (ov gv : Value) (bm br : Nat) : Prop where
  ge : B ≤ g
  gem : B ≤ bm
  ger : B ≤ br
  ne : bm ≠ br
  blk : Blk w g 111 #[ov, .map (some bm), gv, .map (some br)]
  ops : w.ownsRow B 99 5 ov a.ops.length (a.ops.flatMap gO)
  gts : w.ownsRow B 113 2 gv a.gotos.length (a.gotos.flatMap gJ)
  mp : OM w bm a.places.length a.places
  mr : OM w br a.regs.length a.regs
  rg : ARegs a.regs
/-- a code that is put together, in memory that the call has made -/
def ACat (B : Nat) (w : World) (g : Nat) (a : AC) : Prop := ∃ ov gv bm br, ACm B w g a ov gv bm br
section
variable {B : Nat} {w wA w1 w6 w' : World} {g : Nat} {a : AC} {ov gv : Value} {bm br : Nat}
theorem ACm.below (h : ACm B w g a ov gv bm br) (hb : Below w.heap.size w w') : ACm B w' g a ov gv bm br :=
  ⟨h.ge, h.gem, h.ger, h.ne, h.blk.below' hb, own_below h.ops hb, own_below h.gts hb, map_below h.mp hb, map_below h.mr hb, h.rg⟩
theorem ACat.below (h : ACat B w g a) (hb : Below w.heap.size w w') : ACat B w' g a := by obtain ⟨ov, gv, bm, br, h⟩ := h; exact ⟨ov, gv, bm, br, h.below hb⟩
theorem areg_hit {s : Nm} {r : Nat} (h : aget a.regs s = some r) : areg s a = a ∧ aregN a s = r := by unfold areg aregN; rw [h]; exact ⟨rfl, rfl⟩
theorem areg_miss {s : Nm} (h : aget a.regs s = none) : areg s a = { a with regs := a.regs ++ [(s, a.regs.length)] } ∧ aregN a s = a.regs.length := by unfold areg aregN; rw [h]; exact ⟨rfl, rfl⟩
theorem ACm.reg (h : ACm B w g a ov gv bm br) {s : Nm} (hn : aget a.regs s = none) (hG : w.grownBy w1 (some br)) (hm : w1.ownsMap Tryd.prog 9 (plainElem (H := Unit) Tryd.prog 3) br (a.regs.length + 1) ((mapOf a.regs).put (.string s) (.lit (.int .i64 (a.regs.length : Int))))) :
    ACm B w1 g (areg s a) ov gv bm br := by
  have hc := Chg.of_grown hG (M := fun k => k = br) (fun k e => by injection e with e; exact e.symm)
  rw [(areg_miss hn).1]
  refine ⟨h.ge, h.gem, h.ger, h.ne, hc.blk h.blk (blk_ne_map h.blk h.mr), own_chg h.ops hc (fun k hk e => own_ne_map h.ops h.mr (by rw [hk, e])), own_chg h.gts hc (fun k hk e => own_ne_map h.gts h.mr (by rw [hk, e])), map_chg h.mp hc h.ne, ?_, h.rg.snoc hn⟩
  show OM w1 br (a.regs ++ [(s, a.regs.length)]).length (a.regs ++ [(s, a.regs.length)])
  unfold OM
  rw [mapOf_snoc, List.length_append, List.length_singleton]
  exact hm
theorem ACm.place (h : ACm B w g a ov gv bm br) {p : Nm} (hG : w.grownBy w1 (some bm)) (hm : w1.ownsMap Tryd.prog 9 (plainElem (H := Unit) Tryd.prog 3) bm (a.places.length + 1) ((mapOf a.places).put (.string p) (.lit (.int .i64 (a.ops.length : Int))))) :
    ACm B w1 g (aat p a) ov gv bm br := by
  have hc := Chg.of_grown hG (M := fun k => k = bm) (fun k e => by injection e with e; exact e.symm)
  refine ⟨h.ge, h.gem, h.ger, h.ne, hc.blk h.blk (blk_ne_map h.blk h.mp), own_chg h.ops hc (fun k hk e => own_ne_map h.ops h.mp (by rw [hk, e])), own_chg h.gts hc (fun k hk e => own_ne_map h.gts h.mp (by rw [hk, e])), ?_, map_chg h.mr hc (fun e => h.ne e.symm), h.rg⟩
  show OM w1 bm (a.places ++ [(p, a.ops.length)]).length (a.places ++ [(p, a.ops.length)])
  unfold OM
  rw [mapOf_snoc, List.length_append, List.length_singleton]
  exact hm
theorem ACm.op (h : ACm B w g a ov gv bm br) {o : Op5} {v' : Value} {y : List Op5} (hb : Below w.heap.size w wA) (hG : wA.grownBy w6 ov.ownBlock) (hy : a.ops ++ [o] = y) (hr : w6.ownsRow B 99 5 v' y.length (y.flatMap gO)) :
    ACm B (w6.setCell ⟨g, 0, none⟩ v') g (aop o a) v' gv bm br := by
  subst hy
  have hA := h.below hb
  have hc := Chg.of_grown hG (M := fun k => ov.ownBlock = some k) (fun k e => e)
  have hB : Blk w6 g 111 #[ov, .map (some bm), gv, .map (some br)] := hc.blk hA.blk (own_ne_blk hA.ops hA.blk (by decide))
  have hS : Chg (fun k => k = g) w6 (w6.setCell ⟨g, 0, none⟩ v') := (Chg.refl (fun k => k = g) w6).setCell (p := ⟨g, 0, none⟩) (fun _ => rfl) _
  have hgt := own_chg hA.gts hc (fun k hk e => absurd (own_ty hA.gts hA.ops hk e) (by decide))
  have hmp := map_chg hA.mp hc (own_ne_map hA.ops hA.mp)
  have hmr := map_chg hA.mr hc (own_ne_map hA.ops hA.mr)
  refine ⟨h.ge, h.gem, h.ger, h.ne, hB.set_ 0 v', own_chg hr hS (fun k hk e => own_ne_blk hr hB (by decide) (by rw [hk, e])), own_chg hgt hS (fun k hk e => own_ne_blk hgt hB (by decide) (by rw [hk, e])), map_chg hmp hS (fun e => blk_ne_map hB hmp e.symm), map_chg hmr hS (fun e => blk_ne_map hB hmr e.symm), h.rg⟩
theorem ACm.goto (h : ACm B w g a ov gv bm br) {p : Nm} {v' : Value} {y : List (Nat × Nm)} (hb : Below w.heap.size w wA) (hG : wA.grownBy w6 gv.ownBlock) (hy : a.gotos ++ [(a.ops.length, p)] = y) (hr : w6.ownsRow B 113 2 v' y.length (y.flatMap gJ)) :
    ACm B (w6.setCell ⟨g, 2, none⟩ v') g { a with gotos := a.gotos ++ [(a.ops.length, p)] } ov v' bm br := by
  subst hy
  have hA := h.below hb
  have hc := Chg.of_grown hG (M := fun k => gv.ownBlock = some k) (fun k e => e)
  have hB : Blk w6 g 111 #[ov, .map (some bm), gv, .map (some br)] := hc.blk hA.blk (own_ne_blk hA.gts hA.blk (by decide))
  have hS : Chg (fun k => k = g) w6 (w6.setCell ⟨g, 2, none⟩ v') := (Chg.refl (fun k => k = g) w6).setCell (p := ⟨g, 2, none⟩) (fun _ => rfl) _
  have hgt := own_chg hA.ops hc (fun k hk e => absurd (own_ty hA.ops hA.gts hk e) (by decide))
  have hmp := map_chg hA.mp hc (own_ne_map hA.gts hA.mp)
  have hmr := map_chg hA.mr hc (own_ne_map hA.gts hA.mr)
  refine ⟨h.ge, h.gem, h.ger, h.ne, hB.set_ 2 v', own_chg hgt hS (fun k hk e => own_ne_blk hgt hB (by decide) (by rw [hk, e])), own_chg hr hS (fun k hk e => own_ne_blk hr hB (by decide) (by rw [hk, e])), map_chg hmp hS (fun e => blk_ne_map hB hmp e.symm), map_chg hmr hS (fun e => blk_ne_map hB hmr e.symm), h.rg⟩
theorem grown_below (hB : Below B w wA) (hG : wA.grownBy w6 (some br)) (hbr : B ≤ br) (hs : B ≤ wA.heap.size) : Below B w w6 := hB.grown hG hs (fun k e => by injection e with e; omega)
end
end Go.Proofs.YtabmkjokeeakdaaDoor
