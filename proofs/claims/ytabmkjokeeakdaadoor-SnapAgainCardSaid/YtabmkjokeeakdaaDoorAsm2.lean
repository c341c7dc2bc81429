/-
  Package asm: the walks of its other methods. Written by gen_asm.py, in part.
-/
import Derived.Test.YtabmkjokeeakdaaDoorAsm
namespace Go.Proofs.YtabmkjokeeakdaaDoor
open Go.RowKit Go.Maps
set_option linter.unusedVariables false

set_option maxHeartbeats 1000000 in
theorem asm_set (B g : Nat) (a : AC) (r : Nm) (n : Int) (w : World) (hB : B ≤ w.heap.size) (hr : r.length ≤ 100) (hl : a.regs.length ≤ 800) (hl2 : a.ops.length ≤ 900) (h : ACat B w g a) :
    Calls Tryd.prog 53 #[.pointer (some ⟨g, 0, none⟩), .string ⟨r.toArray⟩, .int .i64 n] w fun e w' => AsmPost B g w (.pointer (some ⟨g, 0, none⟩)) (aset r n a) e w' := by
  have HA := hid h; clear h
  go_enter Tryd.func53, Tryd.ntmps53
  go_wp2_with fail
  refine (asm_reg B g a r w hB hr (by omega) HA.out).mono ?_
  rintro e w1 hp1
  obtain ⟨rfl, k1, b1, z1⟩ := hp1
  have H1 := hid k1
  have B1 := hid (show Below B w w1 from b1)
  have Z1 := hid z1
  clear k1 b1 z1
  go_wp2_with fail
  refine (asm_op B g (areg r a) ⟨1, (aregN a r : Int), n, 0, 0⟩ w1 (Nat.le_trans hB B1.out.size) (by have := areg_ops1 a r; rw [this]; omega) H1.out).mono ?_
  rintro e w9 hp9
  obtain ⟨rfl, k9, b9, z9⟩ := hp9
  go_wp2
  go_ret
  exact ⟨rfl, k9, B1.out.trans b9, Z1.out.trans z9⟩
set_option maxHeartbeats 1000000 in
theorem asm_do (B g : Nat) (a : AC) (k : Int) (r x y : Nm) (w : World) (hB : B ≤ w.heap.size) (hr : r.length ≤ 100) (hx : x.length ≤ 100) (hy : y.length ≤ 100) (hl : a.regs.length ≤ 800) (hl2 : a.ops.length ≤ 900) (h : ACat B w g a) :
    Calls Tryd.prog 64 #[.pointer (some ⟨g, 0, none⟩), .int .i64 k, .string ⟨r.toArray⟩, .string ⟨x.toArray⟩, .string ⟨y.toArray⟩] w fun e w' => AsmPost B g w (.pointer (some ⟨g, 0, none⟩)) (ado k r x y a) e w' := by
  have HA := hid h; clear h
  go_enter Tryd.func64, Tryd.ntmps64
  go_wp2_with fail
  refine (asm_reg B g a r w hB hr (by omega) HA.out).mono ?_
  rintro e w1 hp1
  obtain ⟨rfl, k1, b1, z1⟩ := hp1
  have H1 := hid k1
  have B1 := hid (show Below B w w1 from b1)
  have Z1 := hid z1
  clear k1 b1 z1
  go_wp2_with fail
  refine (asm_reg B g (areg r a) x w1 (Nat.le_trans hB B1.out.size) hx (by have := areg_len1 a r; omega) H1.out).mono ?_
  rintro e w2 hp2
  obtain ⟨rfl, k2, b2, z2⟩ := hp2
  have H2 := hid k2
  have B2 := hid (show Below B w w2 from B1.out.trans b2)
  have Z2 := hid (Z1.out.trans z2)
  clear k2 b2 z2
  go_wp2_with fail
  refine (asm_reg B g (areg x (areg r a)) y w2 (Nat.le_trans hB B2.out.size) hy (by have := areg_len2 a r x; omega) H2.out).mono ?_
  rintro e w3 hp3
  obtain ⟨rfl, k3, b3, z3⟩ := hp3
  have H3 := hid k3
  have B3 := hid (show Below B w w3 from B2.out.trans b3)
  have Z3 := hid (Z2.out.trans z3)
  clear k3 b3 z3
  go_wp2_with fail
  refine (asm_op B g (areg y (areg x (areg r a))) ⟨k, (aregN a r : Int), (aregN (areg r a) x : Int), (aregN (areg x (areg r a)) y : Int), 0⟩ w3 (Nat.le_trans hB B3.out.size) (by have := areg_ops3 a r x y; rw [this]; omega) H3.out).mono ?_
  rintro e w9 hp9
  obtain ⟨rfl, k9, b9, z9⟩ := hp9
  go_wp2
  go_ret
  exact ⟨rfl, k9, B3.out.trans b9, Z3.out.trans z9⟩
set_option maxHeartbeats 1000000 in
theorem asm_copy (B g : Nat) (a : AC) (r x : Nm) (w : World) (hB : B ≤ w.heap.size) (hr : r.length ≤ 100) (hx : x.length ≤ 100) (hl : a.regs.length ≤ 800) (hl2 : a.ops.length ≤ 900) (h : ACat B w g a) :
    Calls Tryd.prog 52 #[.pointer (some ⟨g, 0, none⟩), .string ⟨r.toArray⟩, .string ⟨x.toArray⟩] w fun e w' => AsmPost B g w (.pointer (some ⟨g, 0, none⟩)) (acopy r x a) e w' := by
  have HA := hid h; clear h
  go_enter Tryd.func52, Tryd.ntmps52
  go_wp2_with fail
  refine (asm_reg B g a r w hB hr (by omega) HA.out).mono ?_
  rintro e w1 hp1
  obtain ⟨rfl, k1, b1, z1⟩ := hp1
  have H1 := hid k1
  have B1 := hid (show Below B w w1 from b1)
  have Z1 := hid z1
  clear k1 b1 z1
  go_wp2_with fail
  refine (asm_reg B g (areg r a) x w1 (Nat.le_trans hB B1.out.size) hx (by have := areg_len1 a r; omega) H1.out).mono ?_
  rintro e w2 hp2
  obtain ⟨rfl, k2, b2, z2⟩ := hp2
  have H2 := hid k2
  have B2 := hid (show Below B w w2 from B1.out.trans b2)
  have Z2 := hid (Z1.out.trans z2)
  clear k2 b2 z2
  go_wp2_with fail
  refine (asm_op B g (areg x (areg r a)) ⟨2, (aregN a r : Int), (aregN (areg r a) x : Int), 0, 0⟩ w2 (Nat.le_trans hB B2.out.size) (by have := areg_ops2 a r x; rw [this]; omega) H2.out).mono ?_
  rintro e w9 hp9
  obtain ⟨rfl, k9, b9, z9⟩ := hp9
  go_wp2
  go_ret
  exact ⟨rfl, k9, B2.out.trans b9, Z2.out.trans z9⟩
set_option maxHeartbeats 1000000 in
theorem asm_word (B g : Nat) (a : AC) (k : Int) (r x : Nm) (m : Int) (w : World) (hB : B ≤ w.heap.size) (hr : r.length ≤ 100) (hx : x.length ≤ 100) (hl : a.regs.length ≤ 800) (hl2 : a.ops.length ≤ 900) (h : ACat B w g a) :
    Calls Tryd.prog 46 #[.pointer (some ⟨g, 0, none⟩), .int .i64 k, .string ⟨r.toArray⟩, .string ⟨x.toArray⟩, .int .i64 m] w fun e w' => AsmPost B g w (.pointer (some ⟨g, 0, none⟩)) (aword k r x m a) e w' := by
  have HA := hid h; clear h
  go_enter Tryd.func46, Tryd.ntmps46
  go_wp2_with fail
  refine (asm_reg B g a r w hB hr (by omega) HA.out).mono ?_
  rintro e w1 hp1
  obtain ⟨rfl, k1, b1, z1⟩ := hp1
  have H1 := hid k1
  have B1 := hid (show Below B w w1 from b1)
  have Z1 := hid z1
  clear k1 b1 z1
  go_wp2_with fail
  refine (asm_reg B g (areg r a) x w1 (Nat.le_trans hB B1.out.size) hx (by have := areg_len1 a r; omega) H1.out).mono ?_
  rintro e w2 hp2
  obtain ⟨rfl, k2, b2, z2⟩ := hp2
  have H2 := hid k2
  have B2 := hid (show Below B w w2 from B1.out.trans b2)
  have Z2 := hid (Z1.out.trans z2)
  clear k2 b2 z2
  go_wp2_with fail
  refine (asm_op B g (areg x (areg r a)) ⟨k, (aregN a r : Int), (aregN (areg r a) x : Int), m, 0⟩ w2 (Nat.le_trans hB B2.out.size) (by have := areg_ops2 a r x; rw [this]; omega) H2.out).mono ?_
  rintro e w9 hp9
  obtain ⟨rfl, k9, b9, z9⟩ := hp9
  go_wp2
  go_ret
  exact ⟨rfl, k9, B2.out.trans b9, Z2.out.trans z9⟩
set_option maxHeartbeats 1000000 in
theorem asm_cas (B g : Nat) (a : AC) (r x : Nm) (m : Int) (y : Nm) (w : World) (hB : B ≤ w.heap.size) (hr : r.length ≤ 100) (hx : x.length ≤ 100) (hy : y.length ≤ 100) (hl : a.regs.length ≤ 800) (hl2 : a.ops.length ≤ 900) (h : ACat B w g a) :
    Calls Tryd.prog 65 #[.pointer (some ⟨g, 0, none⟩), .string ⟨r.toArray⟩, .string ⟨x.toArray⟩, .int .i64 m, .string ⟨y.toArray⟩] w fun e w' => AsmPost B g w (.pointer (some ⟨g, 0, none⟩)) (acas r x m y a) e w' := by
  have HA := hid h; clear h
  go_enter Tryd.func65, Tryd.ntmps65
  go_wp2_with fail
  refine (asm_reg B g a r w hB hr (by omega) HA.out).mono ?_
  rintro e w1 hp1
  obtain ⟨rfl, k1, b1, z1⟩ := hp1
  have H1 := hid k1
  have B1 := hid (show Below B w w1 from b1)
  have Z1 := hid z1
  clear k1 b1 z1
  go_wp2_with fail
  refine (asm_reg B g (areg r a) x w1 (Nat.le_trans hB B1.out.size) hx (by have := areg_len1 a r; omega) H1.out).mono ?_
  rintro e w2 hp2
  obtain ⟨rfl, k2, b2, z2⟩ := hp2
  have H2 := hid k2
  have B2 := hid (show Below B w w2 from B1.out.trans b2)
  have Z2 := hid (Z1.out.trans z2)
  clear k2 b2 z2
  go_wp2_with fail
  refine (asm_reg B g (areg x (areg r a)) y w2 (Nat.le_trans hB B2.out.size) hy (by have := areg_len2 a r x; omega) H2.out).mono ?_
  rintro e w3 hp3
  obtain ⟨rfl, k3, b3, z3⟩ := hp3
  have H3 := hid k3
  have B3 := hid (show Below B w w3 from B2.out.trans b3)
  have Z3 := hid (Z2.out.trans z3)
  clear k3 b3 z3
  go_wp2_with fail
  refine (asm_op B g (areg y (areg x (areg r a))) ⟨15, (aregN a r : Int), (aregN (areg r a) x : Int), m, (aregN (areg x (areg r a)) y : Int)⟩ w3 (Nat.le_trans hB B3.out.size) (by have := areg_ops3 a r x y; rw [this]; omega) H3.out).mono ?_
  rintro e w9 hp9
  obtain ⟨rfl, k9, b9, z9⟩ := hp9
  go_wp2
  go_ret
  exact ⟨rfl, k9, B3.out.trans b9, Z3.out.trans z9⟩
theorem step_mapUpdate {H : Type} {P : Program} (w : World) {ops : Array Oper} {o : Oper} {a : Act} {K' : Act → World → Prop} {Q : Exit → Act → World → Prop} {D' : Prop} (hwn : Region.wanted o (yielded ops a.tmps) = true) (m x v : Operand) (t : TypeId) (hop : o.op = Op.mapUpdate t m x v)
    (k e : TypeId) (K : Keyed P k) (ht : P.underlying t = some (.map k e)) (R : Value → Option (DataW H × List MemPlace)) (b n : Nat) (D : DataW H)
    (hm : a.eval m = .map (some b)) (hown : w.ownsMap P k R b n D) (hn : n < maxLen) (key val : Value) (kl : Lit) (hx : a.eval x = key) (hv : a.eval v = val) (hkey : keyOf P k key = some kl)
    (d : DataW H) (ps : List MemPlace) (hval : R val = some (d, ps))
    (hK : ∀ w', w'.ownsMap P k R b (n + 1) (D.put kl d) → w.grownBy w' (some b) → K' (a.put o.dst undef) w') :
    if Region.wanted o (yielded ops a.tmps) = true then Oper.wp P o a w K' Q else D' := by
  rw [if_pos hwn]
  obtain ⟨w', hrun, r1, r2⟩ := hown.update K ht hn hkey hval
  unfold Oper.wp
  simp [execOp, hop, hm, hx, hv, hrun, Result.andThen]
  exact hK w' r1 r2
set_option maxHeartbeats 1000000 in
set_option maxRecDepth 100000 in
theorem asm_at (B g : Nat) (a : AC) (p : Nm) (w : World) (hB : B ≤ w.heap.size) (hp : p.length ≤ 100) (hl2 : a.ops.length ≤ 900) (hl3 : a.places.length ≤ 900) (h : ACat B w g a) :
    Calls Tryd.prog 50 #[.pointer (some ⟨g, 0, none⟩), .string ⟨p.toArray⟩] w fun e w' => AsmPost B g w (.pointer (some ⟨g, 0, none⟩)) (aat p a) e w' := by
  obtain ⟨ov, gv, bm, br, h⟩ := h
  have hkey := key_of p hp
  have hwf := litwf a.ops.length (by omega)
  obtain ⟨Ao, co, rfl, _, _⟩ := own_form h.ops
  have c0 : w.cell? ⟨g, 0, none⟩ = some (.slice Ao a.ops.length co) := h.blk.cell 0
  have c1 : w.cell? ⟨g, 1, none⟩ = some (.map (some bm)) := h.blk.cell 1
  have HA := hid h
  have HGW := hid (fun w1 (hG : w.drew.grownBy w1 (some bm)) => show w1.cell? ⟨g, 0, none⟩ = some (.slice Ao a.ops.length co) ∧ w1.cell? ⟨g, 1, none⟩ = some (.map (some bm)) from by
    have hb := (Chg.of_grown hG (M := fun k => k = bm) (fun k e => by injection e with e; exact e.symm)).blk (show Blk w.drew g _ _ from h.blk) (blk_ne_map h.blk h.mp)
    exact ⟨hb.cell 0, hb.cell 1⟩)
  clear h
  go_enter Tryd.func50, Tryd.ntmps50
  go_wp2_with fail
  refine wp_region_held_drew (S := (fun w' => w'.cell? ⟨g, 0, none⟩ = some (.slice Ao a.ops.length co) ∧ w'.cell? ⟨g, 1, none⟩ = some (.map (some bm)))) (by kernel_rfl) ?_ (fun hHeld => ?_)
  · (try dsimp only); (first | assumption | exact HZ | exact ⟨c0, c1⟩)
  refine wpAnyH_take (i := 0) (oi := ⟨some 5, _, _, _, _, _⟩) (v := ?_) rfl (by kernel_rfl) (by kernel_rfl) (by kernel_rfl) (fun _ _ _ h => h) (Or.inl ⟨by rfl, ?_⟩) (by assumption) ?_
  rotate_left
  · intro w hSw; (try dsimp only at hSw); go_simp <;> with_reducible rfl
  try simp only [Act.put, List.setIfInBounds_toArray, List.set_cons_zero, List.set_cons_succ]
  refine wpAnyH_take (i := 1) (oi := ⟨some 6, _, _, _, _, _⟩) (v := ?_) rfl (by kernel_rfl) (by kernel_rfl) (by kernel_rfl) (fun _ _ _ h => h) (Or.inl ⟨by rfl, ?_⟩) (by assumption) ?_
  rotate_left
  · intro w hSw; (try dsimp only at hSw); go_simp <;> with_reducible rfl
  try simp only [Act.put, List.setIfInBounds_toArray, List.set_cons_zero, List.set_cons_succ]
  refine wpAnyH_take (i := 2) (oi := ⟨some 7, _, _, _, _, _⟩) (v := ?_) rfl (by kernel_rfl) (by kernel_rfl) (by kernel_rfl) (fun _ _ _ h => h) (Or.inl ⟨by rfl, ?_⟩) (by assumption) ?_
  rotate_left
  · intro w hSw; (try dsimp only at hSw); go_simp <;> with_reducible rfl
  try simp only [Act.put, List.setIfInBounds_toArray, List.set_cons_zero, List.set_cons_succ]
  refine wpAnyH_take (i := 3) (oi := ⟨some 8, _, _, _, _, _⟩) (v := ?_) rfl (by kernel_rfl) (by kernel_rfl) (by kernel_rfl) (fun _ _ _ h => h) (Or.inl ⟨by rfl, ?_⟩) (by assumption) ?_
  rotate_left
  · intro w hSw; (try dsimp only at hSw); go_simp <;> with_reducible rfl
  try simp only [Act.put, List.setIfInBounds_toArray, List.set_cons_zero, List.set_cons_succ]
  refine wpAnyH_take (i := 4) (oi := ⟨some 9, _, _, _, _, _⟩) (v := ?_) rfl (by kernel_rfl) (by kernel_rfl) (by kernel_rfl) (fun _ _ _ h => h) (Or.inl ⟨by rfl, ?_⟩) (by assumption) ?_
  rotate_left
  · intro w hSw; (try dsimp only at hSw); go_simp <;> with_reducible rfl
  try simp only [Act.put, List.setIfInBounds_toArray, List.set_cons_zero, List.set_cons_succ]
  refine wpAnyH_take (i := 5) (oi := ⟨some 10, _, _, _, _, _⟩) (v := ?_) rfl (by kernel_rfl) (by kernel_rfl) (by kernel_rfl) (fun _ _ _ h => h) (Or.inl ⟨by rfl, ?_⟩) (by assumption) ?_
  rotate_left
  · intro w hSw; (try dsimp only at hSw); go_simp <;> with_reducible rfl
  try simp only [Act.put, List.setIfInBounds_toArray, List.set_cons_zero, List.set_cons_succ]
  refine wpAnyH_take (i := 6) (oi := ⟨some 11, _, _, _, _, _⟩) (v := ?_) rfl (by kernel_rfl) (by kernel_rfl) (by kernel_rfl) (fun _ _ _ h => h) (Or.inl ⟨by rfl, ?_⟩) (by assumption) ?_
  rotate_left
  · intro w hSw; (try dsimp only at hSw); go_simp <;> with_reducible rfl
  try simp only [Act.put, List.setIfInBounds_toArray, List.set_cons_zero, List.set_cons_succ]
  refine wpAnyH_take (i := 7) (oi := ⟨some 12, _, _, _, _, _⟩) (v := ?_) rfl (by kernel_rfl) (by kernel_rfl) (by kernel_rfl) (fun _ _ _ h => h) (Or.inl ⟨by rfl, ?_⟩) (by assumption) ?_
  rotate_left
  · intro w hSw; (try dsimp only at hSw); go_simp <;> with_reducible rfl
  try simp only [Act.put, List.setIfInBounds_toArray, List.set_cons_zero, List.set_cons_succ]
  refine wpAnyH_take (i := 8) (oi := ⟨some 13, _, _, _, _, _⟩) (v := ?_) rfl (by kernel_rfl) (by kernel_rfl) (by kernel_rfl) (fun _ _ _ h => h) (Or.inl ⟨by rfl, ?_⟩) (by assumption) ?_
  rotate_left
  · intro w hSw; (try dsimp only at hSw); go_simp <;> with_reducible rfl
  try simp only [Act.put, List.setIfInBounds_toArray, List.set_cons_zero, List.set_cons_succ]
  refine wpAnyH_take (i := 9) (oi := ⟨some 14, _, _, _, _, _⟩) (v := ?_) rfl (by kernel_rfl) (by kernel_rfl) (by kernel_rfl) (fun _ _ _ h => h) (Or.inl ⟨by rfl, ?_⟩) (by assumption) ?_
  rotate_left
  · intro w hSw; (try dsimp only at hSw); go_simp <;> with_reducible rfl
  try simp only [Act.put, List.setIfInBounds_toArray, List.set_cons_zero, List.set_cons_succ]
  refine wpAnyH_ready (rs := [10]) (by kernel_rfl) (by simp) ?_
  refine AllReadyH.cons (o := ⟨none, _, _, _, _, _⟩) rfl (fun K hK => ?_) AllReadyH.nil
  (refine step_mapUpdate _ rfl (.tmp 8) (.tmp 9) (.tmp 14) 108 rfl 9 3 kStr Tryd.underlying108 _ bm a.places.length (mapOf a.places) rfl HA.out.mp.drew (by unfold maxLen; omega) _ _ _ rfl rfl hkey _ [] (plainElem_int Tryd.underlying3 hwf) ?_; intro w1 hown1 hgrow1; have HZ := HGW.out w1 hgrow1)
  refine hK.out _ _ ?_ (fun hHeld => ?_)
  · (try dsimp only); (first | assumption | exact HZ | exact ⟨c0, c1⟩)
  clear hK K
  try dsimp only [Act.put]
  refine wpAnyH_done (by kernel_rfl) ?_ _
  rotate_left
  all_goals
    have HM := hid (HA.out.place (w1 := w1) (show w.grownBy w1 (some bm) from ⟨hgrow1.os, hgrow1.tape, hgrow1.output, hgrow1.size, hgrow1.block⟩) hown1)
    have HB6 := hid (grown_below (show Below B w w.drew from (Below.refl _ _).drew) hgrow1 HA.out.gem hB)
    go_wp2
    go_ret
    exact ⟨rfl, ⟨_, _, _, _, HM.out⟩, HB6.out, (Keeps.below (bnil w).drew).trans (Keeps.map (w := w.drew) HA.out.mp.drew hgrow1)⟩
set_option maxHeartbeats 2000000 in
set_option maxRecDepth 100000 in
theorem asm_if (B g : Nat) (a : AC) (k : Int) (r p : Nm) (w : World) (hB : B ≤ w.heap.size) (hr : r.length ≤ 100) (hl : a.regs.length ≤ 800) (hl2 : a.ops.length ≤ 900) (hl4 : a.gotos.length ≤ 900) (h : ACat B w g a) :
    Calls Tryd.prog 66 #[.pointer (some ⟨g, 0, none⟩), .int .i64 k, .string ⟨r.toArray⟩, .string ⟨p.toArray⟩] w fun e w' => AsmPost B g w (.pointer (some ⟨g, 0, none⟩)) (aif k r p a) e w' := by
  obtain ⟨ov, gv, bm, br, h0⟩ := h
  obtain ⟨Ao, co, rfl, _, _⟩ := own_form h0.ops
  have HX := hid h0
  have HBX := hid hB
  obtain ⟨y, hy⟩ : ∃ y, a.gotos ++ [(a.ops.length, p)] = y := ⟨_, rfl⟩
  have HY := hid hy
  have HYL := hid (show y.length = a.gotos.length + 1 by rw [← hy, List.length_append]; rfl)
  have hS : ∀ w' v2, Blk w' g 111 #[.slice Ao a.ops.length co, .map (some bm), v2, .map (some br)] → w'.cell? ⟨g, 0, none⟩ = some (.slice Ao a.ops.length co) ∧ w'.frozen? ⟨g, 2, none⟩ = false := fun w' v2 hb => ⟨hb.cell 0, hb.frozen 2⟩
  have HS0 := hid (fun w' (hb : Below w.heap.size w w') => hS w' _ (HX.out.blk.below' hb))
  have HGW := hid (fun wA w6 (hb : Below w.heap.size w wA) (hG : wA.grownBy w6 gv.ownBlock) => show _ ∧ w6.cell? ⟨g, 2, none⟩ = some gv ∧ _ from by
    have hc := Chg.of_grown hG (M := fun k => gv.ownBlock = some k) (fun k e => e)
    have b2 := hc.blk ((HX.out.below hb).blk) (own_ne_blk (HX.out.below hb).gts (HX.out.below hb).blk (by decide))
    exact ⟨hS w6 _ b2, b2.cell 2, fun v => hS _ _ (b2.set_ 2 v)⟩)
  have c0 : w.cell? ⟨g, 0, none⟩ = some (.slice Ao a.ops.length co) := HX.out.blk.cell 0
  have c2 : w.cell? ⟨g, 2, none⟩ = some gv := HX.out.blk.cell 2
  have f2 : w.frozen? ⟨g, 2, none⟩ = false := HX.out.blk.frozen 2
  have lg := HX.out.blk.lt
  clear hS hy h0
  go_enter Tryd.func66, Tryd.ntmps66
  go_wp2_with fail
  refine wp_region_held_drew (S := (fun w' => w'.cell? ⟨g, 0, none⟩ = some (.slice Ao a.ops.length co) ∧ w'.frozen? ⟨g, 2, none⟩ = false)) (by kernel_rfl) ?_ (fun hHeld => ?_)
  · (try dsimp only); (first | assumption | exact HZ.1 | exact HZ.2.2 _ | exact HS0.out _ (bnil _).drew | exact HS0.out _ (bnew (bnil _) _).drew)
  refine wpAnyH_take (i := 0) (oi := ⟨some 9, _, _, _, _, _⟩) (v := ?_) rfl (by kernel_rfl) (by kernel_rfl) (by kernel_rfl) (fun _ _ _ h => h) (Or.inl ⟨by rfl, ?_⟩) (by assumption) ?_
  rotate_left
  · intro w hSw; (try dsimp only at hSw); go_simp <;> with_reducible rfl
  try simp only [Act.put, List.setIfInBounds_toArray, List.set_cons_zero, List.set_cons_succ]
  refine wpAnyH_take (i := 1) (oi := ⟨some 10, _, _, _, _, _⟩) (v := ?_) rfl (by kernel_rfl) (by kernel_rfl) (by kernel_rfl) (fun _ _ _ h => h) (Or.inl ⟨by rfl, ?_⟩) (by assumption) ?_
  rotate_left
  · intro w hSw; (try dsimp only at hSw); go_simp <;> with_reducible rfl
  try simp only [Act.put, List.setIfInBounds_toArray, List.set_cons_zero, List.set_cons_succ]
  refine wpAnyH_take (i := 2) (oi := ⟨some 11, _, _, _, _, _⟩) (v := ?_) rfl (by kernel_rfl) (by kernel_rfl) (by kernel_rfl) (fun _ _ _ h => h) (Or.inl ⟨by rfl, ?_⟩) (by assumption) ?_
  rotate_left
  · intro w hSw; (try dsimp only at hSw); go_simp <;> with_reducible rfl
  try simp only [Act.put, List.setIfInBounds_toArray, List.set_cons_zero, List.set_cons_succ]
  refine wpAnyH_take (i := 3) (oi := ⟨some 12, _, _, _, _, _⟩) (v := ?_) rfl (by kernel_rfl) (by kernel_rfl) (by kernel_rfl) (fun _ _ _ h => h) (Or.inl ⟨by rfl, ?_⟩) (by assumption) ?_
  rotate_left
  · intro w hSw; (try dsimp only at hSw); go_simp <;> with_reducible rfl
  try simp only [Act.put, List.setIfInBounds_toArray, List.set_cons_zero, List.set_cons_succ]
  refine wpAnyH_take (i := 5) (oi := ⟨some 14, _, _, _, _, _⟩) (v := ?_) rfl (by kernel_rfl) (by kernel_rfl) (by kernel_rfl) (fun _ _ _ h => h) (Or.inl ⟨by rfl, ?_⟩) (by assumption) ?_
  rotate_left
  · intro w hSw; (try dsimp only at hSw); go_simp <;> with_reducible rfl
  try simp only [Act.put, List.setIfInBounds_toArray, List.set_cons_zero, List.set_cons_succ]
  refine wpAnyH_take (i := 6) (oi := ⟨some 15, _, _, _, _, _⟩) (v := ?_) rfl (by kernel_rfl) (by kernel_rfl) (by kernel_rfl) (fun _ _ _ h => h) (Or.inl ⟨by rfl, ?_⟩) (by assumption) ?_
  rotate_left
  · intro w hSw; (try dsimp only at hSw); go_simp <;> with_reducible rfl
  try simp only [Act.put, List.setIfInBounds_toArray, List.set_cons_zero, List.set_cons_succ]
  refine wpAnyH_take (i := 7) (oi := ⟨some 16, _, _, _, _, _⟩) (v := ?_) rfl (by kernel_rfl) (by kernel_rfl) (by kernel_rfl) (fun _ _ _ h => h) (Or.inl ⟨by rfl, ?_⟩) (by assumption) ?_
  rotate_left
  · intro w hSw; (try dsimp only at hSw); go_simp <;> with_reducible rfl
  try simp only [Act.put, List.setIfInBounds_toArray, List.set_cons_zero, List.set_cons_succ]
  refine wpAnyH_take (i := 8) (oi := ⟨some 17, _, _, _, _, _⟩) (v := ?_) rfl (by kernel_rfl) (by kernel_rfl) (by kernel_rfl) (fun _ _ _ h => h) (Or.inl ⟨by rfl, ?_⟩) (by assumption) ?_
  rotate_left
  · intro w hSw; (try dsimp only at hSw); go_simp <;> with_reducible rfl
  try simp only [Act.put, List.setIfInBounds_toArray, List.set_cons_zero, List.set_cons_succ]
  refine wpAnyH_take (i := 9) (oi := ⟨some 18, _, _, _, _, _⟩) (v := ?_) rfl (by kernel_rfl) (by kernel_rfl) (by kernel_rfl) (fun _ _ _ h => h) (Or.inl ⟨by rfl, ?_⟩) (by assumption) ?_
  rotate_left
  · intro w hSw; (try dsimp only at hSw); go_simp <;> with_reducible rfl
  try simp only [Act.put, List.setIfInBounds_toArray, List.set_cons_zero, List.set_cons_succ]
  refine wpAnyH_take (i := 10) (oi := ⟨some 19, _, _, _, _, _⟩) (v := ?_) rfl (by kernel_rfl) (by kernel_rfl) (by kernel_rfl) (fun _ _ _ h => h) (Or.inl ⟨by rfl, ?_⟩) (by assumption) ?_
  rotate_left
  · intro w hSw; (try dsimp only at hSw); go_simp <;> with_reducible rfl
  try simp only [Act.put, List.setIfInBounds_toArray, List.set_cons_zero, List.set_cons_succ]
  refine wpAnyH_take (i := 11) (oi := ⟨some 20, _, _, _, _, _⟩) (v := ?_) rfl (by kernel_rfl) (by kernel_rfl) (by kernel_rfl) (fun _ _ _ h => h) (Or.inl ⟨by rfl, ?_⟩) (by assumption) ?_
  rotate_left
  · intro w hSw; (try dsimp only at hSw); go_simp <;> with_reducible rfl
  try simp only [Act.put, List.setIfInBounds_toArray, List.set_cons_zero, List.set_cons_succ]
  refine wpAnyH_ready (rs := [4, 12]) (by kernel_rfl) (by simp) ?_
  refine AllReadyH.cons (o := ⟨some 13, _, _, _, _, _⟩) rfl (fun K hK => ?_) ?_
  go_simp
  refine hK.out _ _ ?_ (fun hHeld => ?_)
  · (try dsimp only); (first | assumption | exact HZ.1 | exact HZ.2.2 _ | exact HS0.out _ (bnil _).drew | exact HS0.out _ (bnew (bnil _) _).drew)
  clear hK K
  try simp only [Act.put, List.setIfInBounds_toArray, List.set_cons_zero, List.set_cons_succ]
  refine wpAnyH_ready (rs := [12]) (by kernel_rfl) (by simp) ?_
  refine AllReadyH.cons (o := ⟨some 21, _, _, _, _, _⟩) rfl (fun K hK => ?_) AllReadyH.nil
  go_simp
  refine hK.out _ _ ?_ (fun hHeld => ?_)
  · (try dsimp only); (first | assumption | exact HZ.1 | exact HZ.2.2 _ | exact HS0.out _ (bnil _).drew | exact HS0.out _ (bnew (bnil _) _).drew)
  clear hK K
  try simp only [Act.put, List.setIfInBounds_toArray, List.set_cons_zero, List.set_cons_succ]
  refine wpAnyH_ready (rs := [13]) (by kernel_rfl) (by simp) ?_
  refine AllReadyH.cons (o := ⟨some 22, _, _, _, _, _⟩) rfl (fun K hK => ?_) AllReadyH.nil
  (refine step_appC elmJ gJ_one rfl (.tmp 13) (.tmp 21) rfl gv a.gotos rfl (own_below HX.out.gts (bnew (bnil _) _).drew) [(a.ops.length, p)] y HY rfl (Sl.drew (Sl.fresh' _ #[_, _] 113 2 1 _ rfl rfl)) rfl (by rw [HYL.out]; simp only [maxLen]; omega) (by rw [HYL.out]; omega) (Nat.le_trans HBX.out (bnew (bnil _) _).drew.size) ?_; intro E6 c6 w6 hc6 hc7 HN6 HG6 HO6; have HZ := HGW.out _ w6 (bnew (bnil _) _).drew HG6.out)
  refine hK.out _ _ ?_ (fun hHeld => ?_)
  · (try dsimp only); (first | assumption | exact HZ.1 | exact HZ.2.2 _ | exact HS0.out _ (bnil _).drew | exact HS0.out _ (bnew (bnil _) _).drew)
  clear hK K
  try simp only [Act.put, List.setIfInBounds_toArray, List.set_cons_zero, List.set_cons_succ]
  refine wpAnyH_take (i := 14) (oi := ⟨some 23, _, _, _, _, _⟩) (v := ?_) rfl (by kernel_rfl) (by kernel_rfl) (by kernel_rfl) (fun _ _ _ h => h) (Or.inl ⟨by rfl, ?_⟩) (by assumption) ?_
  rotate_left
  · intro w hSw; (try dsimp only at hSw); go_simp <;> with_reducible rfl
  try simp only [Act.put, List.setIfInBounds_toArray, List.set_cons_zero, List.set_cons_succ]
  refine wpAnyH_take (i := 15) (oi := ⟨some 24, _, _, _, _, _⟩) (v := ?_) rfl (by kernel_rfl) (by kernel_rfl) (by kernel_rfl) (fun _ _ _ h => h) (Or.inl ⟨by rfl, ?_⟩) (by assumption) ?_
  rotate_left
  · intro w hSw; (try dsimp only at hSw); go_simp <;> with_reducible rfl
  try simp only [Act.put, List.setIfInBounds_toArray, List.set_cons_zero, List.set_cons_succ]
  refine wpAnyH_ready (rs := [16]) (by kernel_rfl) (by simp) ?_
  refine AllReadyH.cons (o := ⟨none, _, _, _, _, _⟩) rfl (fun K hK => ?_) AllReadyH.nil
  go_simp
  refine hK.out _ _ ?_ (fun hHeld => ?_)
  · (try dsimp only); (first | assumption | exact HZ.1 | exact HZ.2.2 _ | exact HS0.out _ (bnil _).drew | exact HS0.out _ (bnew (bnil _) _).drew)
  clear hK K
  try dsimp only [Act.put]
  refine wpAnyH_done (by kernel_rfl) ?_ _
  rotate_left
  refine AllReadyH.cons (o := ⟨some 21, _, _, _, _, _⟩) rfl (fun K hK => ?_) AllReadyH.nil
  go_simp
  refine hK.out _ _ ?_ (fun hHeld => ?_)
  · (try dsimp only); (first | assumption | exact HZ.1 | exact HZ.2.2 _ | exact HS0.out _ (bnil _).drew | exact HS0.out _ (bnew (bnil _) _).drew)
  clear hK K
  try simp only [Act.put, List.setIfInBounds_toArray, List.set_cons_zero, List.set_cons_succ]
  refine wpAnyH_ready (rs := [4]) (by kernel_rfl) (by simp) ?_
  refine AllReadyH.cons (o := ⟨some 13, _, _, _, _, _⟩) rfl (fun K hK => ?_) AllReadyH.nil
  go_simp
  refine hK.out _ _ ?_ (fun hHeld => ?_)
  · (try dsimp only); (first | assumption | exact HZ.1 | exact HZ.2.2 _ | exact HS0.out _ (bnil _).drew | exact HS0.out _ (bnew (bnil _) _).drew)
  clear hK K
  try simp only [Act.put, List.setIfInBounds_toArray, List.set_cons_zero, List.set_cons_succ]
  refine wpAnyH_ready (rs := [13]) (by kernel_rfl) (by simp) ?_
  refine AllReadyH.cons (o := ⟨some 22, _, _, _, _, _⟩) rfl (fun K hK => ?_) AllReadyH.nil
  (refine step_appC elmJ gJ_one rfl (.tmp 13) (.tmp 21) rfl gv a.gotos rfl (own_below HX.out.gts (bnew (bnil _) _).drew) [(a.ops.length, p)] y HY rfl (Sl.drew (Sl.fresh' _ #[_, _] 113 2 1 _ rfl rfl)) rfl (by rw [HYL.out]; simp only [maxLen]; omega) (by rw [HYL.out]; omega) (Nat.le_trans HBX.out (bnew (bnil _) _).drew.size) ?_; intro E6 c6 w6 hc6 hc7 HN6 HG6 HO6; have HZ := HGW.out _ w6 (bnew (bnil _) _).drew HG6.out)
  refine hK.out _ _ ?_ (fun hHeld => ?_)
  · (try dsimp only); (first | assumption | exact HZ.1 | exact HZ.2.2 _ | exact HS0.out _ (bnil _).drew | exact HS0.out _ (bnew (bnil _) _).drew)
  clear hK K
  try simp only [Act.put, List.setIfInBounds_toArray, List.set_cons_zero, List.set_cons_succ]
  refine wpAnyH_take (i := 14) (oi := ⟨some 23, _, _, _, _, _⟩) (v := ?_) rfl (by kernel_rfl) (by kernel_rfl) (by kernel_rfl) (fun _ _ _ h => h) (Or.inl ⟨by rfl, ?_⟩) (by assumption) ?_
  rotate_left
  · intro w hSw; (try dsimp only at hSw); go_simp <;> with_reducible rfl
  try simp only [Act.put, List.setIfInBounds_toArray, List.set_cons_zero, List.set_cons_succ]
  refine wpAnyH_take (i := 15) (oi := ⟨some 24, _, _, _, _, _⟩) (v := ?_) rfl (by kernel_rfl) (by kernel_rfl) (by kernel_rfl) (fun _ _ _ h => h) (Or.inl ⟨by rfl, ?_⟩) (by assumption) ?_
  rotate_left
  · intro w hSw; (try dsimp only at hSw); go_simp <;> with_reducible rfl
  try simp only [Act.put, List.setIfInBounds_toArray, List.set_cons_zero, List.set_cons_succ]
  refine wpAnyH_ready (rs := [16]) (by kernel_rfl) (by simp) ?_
  refine AllReadyH.cons (o := ⟨none, _, _, _, _, _⟩) rfl (fun K hK => ?_) AllReadyH.nil
  go_simp
  refine hK.out _ _ ?_ (fun hHeld => ?_)
  · (try dsimp only); (first | assumption | exact HZ.1 | exact HZ.2.2 _ | exact HS0.out _ (bnil _).drew | exact HS0.out _ (bnew (bnil _) _).drew)
  clear hK K
  try dsimp only [Act.put]
  refine wpAnyH_done (by kernel_rfl) ?_ _
  rotate_left
  all_goals
    have HM := hid (HX.out.goto (p := p) (bnew (bnil _) _).drew HG6.out HY.out HN6.out)
    have b1 := ((bnew (bnil w) (.cells #[.int .i64 (a.ops.length : Int), .string ⟨p.toArray⟩] 113)).drew.mono HBX.out)
    have HB6 := hid ((below_app b1 (own_below HX.out.gts (bnew (bnil _) _).drew) HG6.out (Nat.le_trans HBX.out (bnew (bnil _) _).drew.size)).setCell (p := ⟨g, 2, none⟩) HX.out.ge (.slice E6 y.length c6))
    have bwA := (bnew (bnil w) (.cells #[.int .i64 (a.ops.length : Int), .string ⟨p.toArray⟩] 113)).drew
    have hbk : Blk w6 g 111 #[.slice Ao a.ops.length co, .map (some bm), gv, .map (some br)] := (Chg.of_grown HG6.out (M := fun k => gv.ownBlock = some k) (fun k e => e)).blk ((HX.out.below bwA).blk) (own_ne_blk (HX.out.below bwA).gts ((HX.out.below bwA).blk) (by decide))
    have HKP := hid ((Keeps.below bwA).trans ((Keeps.row (own_below HX.out.gts bwA) (.inr rfl) HG6.out).trans (Keeps.set_ hbk 2 (.slice E6 y.length c6))))
    clear b1 hbk bwA
    obtain ⟨w7, hw7⟩ : ∃ w7, w6.setCell ⟨g, 2, none⟩ (.slice E6 y.length c6) = w7 := ⟨_, rfl⟩
    rw [hw7] at HM HB6 HKP ⊢
    clear hw7 HZ hHeld HG6 HN6 HO6 c0 c2 f2
    have hB7 := HB6.out.size
    obtain ⟨a1, ha1⟩ : ∃ a1, ({ a with gotos := a.gotos ++ [(a.ops.length, p)] } : AC) = a1 := ⟨_, rfl⟩
    have e1 : a1.regs = a.regs := by rw [← ha1]
    have e2 : a1.ops = a.ops := by rw [← ha1]
    have HM1 := hid (show ACat B w7 g a1 by rw [← ha1]; exact ⟨_, _, _, _, HM.out⟩)
    have HA1 := hid ha1
    have l1 : a1.regs.length ≤ 800 := by rw [e1]; omega
    have l2 : a1.ops.length ≤ 900 := by rw [e2]; omega
    clear ha1 HM e1 e2
    go_wp2_with fail
    refine (asm_reg B g a1 r w7 (Nat.le_trans hB hB7) hr (by omega) HM1.out).mono ?_
    rintro e w8 hp8
    obtain ⟨rfl, k8, b8, z8⟩ := hp8
    have K8 := hid k8; have B8 := hid (HB6.out.trans b8); have Z8 := hid (HKP.out.trans z8)
    clear k8 b8 z8
    go_wp2_with fail
    refine (asm_op B g (areg r a1) ⟨k, (aregN a1 r : Int), 0, 0, 0⟩ w8 (Nat.le_trans hB B8.out.size) (by rw [areg_ops]; omega) K8.out).mono ?_
    rintro e w9 hp9
    obtain ⟨rfl, k9, b9, z9⟩ := hp9
    go_wp2
    go_ret
    have e3 : aregN a1 r = aregN a r := by rw [← HA1.out]; rfl
    rw [e3] at k9
    exact ⟨rfl, by unfold aif; rw [HA1.out]; exact k9, B8.out.trans b9, Z8.out.trans z9⟩
abbrev gN : Nm → List Value := fun s => [.string ⟨s.toArray⟩]
theorem names_at {w : World} {A : Option Addr} {n k : Nat} {l : List Nm} (h : Sl w 1 A n (l.flatMap gN)) (hk : k < n) : ∃ ad s, A = some ad ∧ l[k]? = some s ∧ w.cell? (ad.add k) = some (.string ⟨s.toArray⟩) := by
  obtain ⟨ad, e, hc⟩ := h.2 (by omega)
  have hl : k < l.length := by have := h.1; rw [flatMap_len gN 1 (fun _ => rfl)] at this; omega
  have h1 := flatMap_at gN 1 (fun _ => rfl) l k 0 l[k] (List.getElem?_eq_getElem hl) (by decide)
  rw [Nat.mul_one, Nat.add_zero] at h1
  exact ⟨ad, l[k], e, List.getElem?_eq_getElem hl, hc k _ h1⟩
theorem atell_snoc (l : List Nm) (s : Nm) (a : AC) : atell (l ++ [s]) a = atell1 s (atell l a) := by unfold atell; rw [List.foldl_append]; rfl
theorem atell_len (l : List Nm) (a : AC) : (atell l a).regs.length ≤ a.regs.length + l.length ∧ (atell l a).ops.length = a.ops.length + l.length := by
  induction l generalizing a with
  | nil => exact ⟨Nat.le_refl _, rfl⟩
  | cons s l ih =>
    have h := ih (atell1 s a)
    have h1 : (atell1 s a).regs.length ≤ a.regs.length + 1 := areg_len s a
    have h2 : (atell1 s a).ops.length = a.ops.length + 1 := by unfold atell1 aop; simp [areg_ops]
    show (atell l (atell1 s a)).regs.length ≤ _ ∧ (atell l (atell1 s a)).ops.length = _
    rw [List.length_cons]
    omega
set_option maxHeartbeats 1000000 in
theorem asm_tell (B g : Nat) (a : AC) (l : List Nm) (b n : Nat) (w : World) (hB : B ≤ w.heap.size) (hs : ∀ s ∈ l, s.length ≤ 100) (hn : l.length = n) (hn2 : n ≤ 100) (hl : a.regs.length ≤ 700) (hl2 : a.ops.length ≤ 800) (h : ACat B w g a)
    (hb : Blk w b 9 (l.flatMap gN).toArray) :
    Calls Tryd.prog 48 #[.pointer (some ⟨g, 0, none⟩), .slice (some ⟨b, 0, none⟩) n n] w fun e w' => AsmPost B g w (.pointer (some ⟨g, 0, none⟩)) (atell l a) e w' := by
  have HA := hid h; have HS := hid hs; have HN := hid hn; have HBK := hid hb
  clear h hs hn hb
  go_enter Tryd.func48, Tryd.ntmps48
  go_wp2_with fail
  go_loopw [9] (fun i wr => ∃ k : Nat, k ≤ n ∧ i = .int .i64 k ∧ Hid (ACat B wr g (atell (l.take k) a)) ∧ Hid (Below B w wr) ∧ Hid (Keeps w wr)) (fun i _ => n - (intOf i).toNat)
  case atStart => exact ⟨0, Nat.zero_le _, rfl, HA, hid (Below.refl _ _), hid (Keeps.refl _)⟩
  case round =>
    obtain ⟨k, hk, rfl, HR, HBR, HKR⟩ := hrel
    by_cases hlt : k < n
    · have j1 : (k : Int) < (n : Int) := by omega
      have hbr := HKR.out b _ _ (by decide) (by decide) (by decide) HBK.out
      obtain ⟨s, hsk⟩ : ∃ s, l[k]? = some s := ⟨_, List.getElem?_eq_getElem (by rw [HN.out]; exact hlt)⟩
      have cs : wr.cell? ⟨b, k, none⟩ = some (.string ⟨s.toArray⟩) := by
        have h1 := flatMap_at gN 1 (fun _ => rfl) l k 0 s hsk (by decide)
        rw [Nat.mul_one, Nat.add_zero] at h1
        rw [hbr.cell k, ← Array.getElem?_toList]; exact h1
      have hs1 := HS.out s (List.mem_of_getElem? hsk)
      have HT := hid (show l.take (k + 1) = l.take k ++ [s] from take_next hsk)
      have hln := atell_len (l.take k) a
      have hlk : (l.take k).length ≤ k := List.length_take_le _ _
      have hB2 := HBR.out.size
      clear hsk hbr
      have HLN := hid hln
      have HHB := hid (Nat.le_trans hB hB2)
      go_wp2_with fail
      refine (asm_reg B g _ s wr HHB.out hs1 (by have := HLN.out.1; omega) HR.out).mono ?_
      rintro e w1 hp1
      obtain ⟨rfl, k1, b1, z1⟩ := hp1
      have K1 := hid k1; have B1 := hid (HBR.out.trans b1); have Z1 := hid (HKR.out.trans z1)
      clear k1 b1 z1 hln
      go_wp2_with fail
      refine (asm_op B g (areg s (atell (l.take k) a)) ⟨16, (aregN (atell (l.take k) a) s : Int), 0, 0, 0⟩ w1 (Nat.le_trans hB B1.out.size) (by rw [areg_ops]; have := HLN.out.2; omega) K1.out).mono ?_
      rintro e w2 hp2
      obtain ⟨rfl, k2, b2, z2⟩ := hp2
      have K2 := hid k2; have B2 := hid (B1.out.trans b2); have Z2 := hid (Z1.out.trans z2)
      clear k2 b2 z2
      go_wp2
      go_roundw
      case rel => exact ⟨k + 1, by omega, by go_num, hid (by rw [HT.out, atell_snoc]; exact K2.out), B2, Z2⟩
      case measure => simp [intOf]; omega
    · obtain rfl : k = n := by omega
      have j1 : ¬ (k : Int) < (k : Int) := by omega
      have E := hid (show l.take k = l from List.take_of_length_le (by rw [HN.out]; exact Nat.le_refl _))
      rw [E.out] at HR
      go_wp2
      go_ret
      exact ⟨rfl, HR.out, HBR.out, HKR.out⟩
end Go.Proofs.YtabmkjokeeakdaaDoor
