/-
  Package asm: New and Ops: their walks.
-/
import Derived.Test.YtabmkjokeeakdaaDoorAsm2
import Derived.Test.YtabmkjokeeakdaaDoorRow
import Derived.Deep.CutBlock
import Derived.Deep.DeepCutAuto
namespace Go.Proofs.YtabmkjokeeakdaaDoor
open Go.RowKit Go.Maps
set_option linter.unusedVariables false

def aregs (l : List Nm) (a : AC) : AC := l.foldl (fun a s => areg s a) a
theorem aregs_snoc (l : List Nm) (s : Nm) (a : AC) : aregs (l ++ [s]) a = areg s (aregs l a) := by unfold aregs; rw [List.foldl_append]; rfl
theorem aregs_len (l : List Nm) (a : AC) : (aregs l a).regs.length ≤ a.regs.length + l.length := by
  induction l generalizing a with
  | nil => exact Nat.le_refl _
  | cons s l ih =>
    have h := ih (areg s a)
    have h1 := areg_len s a
    show (aregs l (areg s a)).regs.length ≤ _
    rw [List.length_cons]; omega
/-- names in memory -/
def Names (w : World) (A : Option Addr) (l : List Nm) : Prop := l = [] ∨ ∃ b, A = some ⟨b, 0, none⟩ ∧ Blk w b 9 (l.flatMap gN).toArray
theorem Names.keeps {w w' : World} {A : Option Addr} {l : List Nm} (h : Names w A l) (k : Keeps w w') : Names w' A l := by
  rcases h with h | ⟨b, h1, h2⟩
  · exact .inl h
  · exact .inr ⟨b, h1, k b _ _ (by decide) (by decide) (by decide) h2⟩
theorem Names.at_ {w : World} {A : Option Addr} {l : List Nm} {k : Nat} {s : Nm} (h : Names w A l) (hk : l[k]? = some s) : ∃ b, A = some ⟨b, 0, none⟩ ∧ w.cell? ⟨b, k, none⟩ = some (.string ⟨s.toArray⟩) := by
  rcases h with h | ⟨b, h1, h2⟩
  · subst h; simp at hk
  · have h3 := flatMap_at gN 1 (fun _ => rfl) l k 0 s hk (by decide)
    rw [Nat.mul_one, Nat.add_zero] at h3
    exact ⟨b, h1, by rw [h2.cell k, ← Array.getElem?_toList]; exact h3⟩
/-- what New leaves -/
def NewPost (B : Nat) (w : World) (a' : AC) (e : Ending) (w' : World) : Prop := ∃ g, e = .returned (.pointer (some ⟨g, 0, none⟩)) ∧ ACat B w' g a' ∧ Below B w w' ∧ Keeps w w'
set_option maxHeartbeats 1000000 in
theorem asm_new (B : Nat) (l : List Nm) (A : Option Addr) (n c : Nat) (w : World) (hB : B ≤ w.heap.size) (hs : ∀ s ∈ l, s.length ≤ 100) (hn : l.length = n) (hn2 : n ≤ 100) (hA : Names w A l) :
    Calls Tryd.prog 63 #[.slice A n c] w fun e w' => NewPost B w (aregs l anew) e w' := by
  have HS := hid hs; have HN := hid hn; have HNM := hid hA
  clear hs hn hA
  have hmm := @run_makeMap Tryd.prog
  obtain ⟨bm, hbm⟩ : ∃ bm, w.heap.size = bm := ⟨_, rfl⟩
  have m1 := World.ownsMap_made w Tryd.prog 9 (plainElem (H := Unit) Tryd.prog 3)
  have m2 := World.ownsMap_made (w.alloc (.map #[] 0)) Tryd.prog 9 (plainElem (H := Unit) Tryd.prog 3)
  have m1' := map_below m1 (bnew (bnew (bnil _) (.map #[] 0)) (.cells #[.slice none 0 0, .map (some bm), .slice none 0 0, .map (some (bm + 1))] 111))
  have m2' := map_below m2 (bnew (bnil _) (.cells #[.slice none 0 0, .map (some bm), .slice none 0 0, .map (some (bm + 1))] 111))
  have k3 := blkN ((w.alloc (.map #[] 0)).alloc (.map #[] 0)) 111 #[.slice none 0 0, .map (some bm), .slice none 0 0, .map (some (bm + 1))] (bm + 1 + 1) (by simp [hbm])
  rw [hbm] at m1'
  rw [show (w.alloc (.map #[] 0)).heap.size = bm + 1 by simp [hbm]] at m2'
  have BN := bnew (bnew (bnew (bnil w) (.map #[] 0)) (.map #[] 0)) (.cells #[.slice none 0 0, .map (some bm), .slice none 0 0, .map (some (bm + 1))] 111)
  have M1 := hid m1'; have M2 := hid m2'; have K3 := hid k3; have BH := hid BN
  clear m1 m2 m1' m2' k3 BN
  go_enter Tryd.func63, Tryd.ntmps63
  go_upto_region 2 with fail
  generalize World.alloc (World.alloc (World.alloc w _) _) _ = w1 at *
  obtain ⟨g, hg⟩ : ∃ g, bm + 1 + 1 = g := ⟨_, rfl⟩
  rw [hg] at K3 ⊢
  have H0 := hid (show ACat B w1 g anew from ⟨.slice none 0 0, .slice none 0 0, bm, bm + 1, by omega, by omega, by omega, by omega, K3.out, own0 _ _ _ _, own0 _ _ _ _, M1.out, M2.out, fun k p h => by simp [anew] at h⟩)
  have B0 := hid (BH.out.mono hB)
  have Z0 := hid (Keeps.below BH.out)
  clear hmm hg hbm
  go_wp2_with fail
  go_loopw [12] (fun i wr => ∃ k : Nat, k ≤ n ∧ i = .int .i64 k ∧ Hid (ACat B wr g (aregs (l.take k) anew)) ∧ Hid (Below B w wr) ∧ Hid (Keeps w wr)) (fun i _ => n - (intOf i).toNat)
  case atStart => exact ⟨0, Nat.zero_le _, rfl, H0, B0, Z0⟩
  case round =>
    obtain ⟨k, hk, rfl, HR, HBR, HKR⟩ := hrel
    by_cases hlt : k < n
    · have j1 : (k : Int) < (n : Int) := by omega
      obtain ⟨s, hsk⟩ : ∃ s, l[k]? = some s := ⟨_, List.getElem?_eq_getElem (by rw [HN.out]; exact hlt)⟩
      obtain ⟨b, rfl, cs⟩ := (HNM.out.keeps HKR.out).at_ hsk
      have hs1 := HS.out s (List.mem_of_getElem? hsk)
      have HT := hid (show l.take (k + 1) = l.take k ++ [s] from take_next hsk)
      have HLN := hid (aregs_len (l.take k) anew)
      have hlk : (l.take k).length ≤ k := List.length_take_le _ _
      have HHB := hid (Nat.le_trans hB HBR.out.size)
      clear hsk
      go_wp2_with fail
      refine (asm_reg B g _ s wr HHB.out hs1 (by have := HLN.out; have h0 : anew.regs.length = 0 := rfl; omega) HR.out).mono ?_
      rintro e w2 hp1
      obtain ⟨rfl, k1, b1, z1⟩ := hp1
      have K1 := hid k1; have B1 := hid (HBR.out.trans b1); have Z1 := hid (HKR.out.trans z1)
      clear k1 b1 z1
      go_wp2
      go_roundw
      case rel => exact ⟨k + 1, by omega, by go_num, hid (by rw [HT.out, aregs_snoc]; exact K1.out), B1, Z1⟩
      case measure => simp [intOf]; omega
    · obtain rfl : k = n := by omega
      have j1 : ¬ (k : Int) < (k : Int) := by omega
      have E := hid (show l.take k = l from List.take_of_length_le (by rw [HN.out]; exact Nat.le_refl _))
      rw [E.out] at HR
      go_wp2
      go_ret
      exact ⟨g, rfl, HR.out, HBR.out, HKR.out⟩
/-! ### Ops -/
theorem own_at {w : World} {B e sz n : Nat} {v : Value} {xs : List Value} (h : w.ownsRow B e sz v n xs) (hn : 0 < n) : ∃ b c, v = .slice (some ⟨b, 0, none⟩) n c ∧ B ≤ b ∧ ∀ j u, xs[j]? = some u → w.cell? ⟨b, j, none⟩ = some u := by
  rcases h.2 with ⟨_, h0⟩ | ⟨g, cap, cur, rfl, hb, hh, h1, h2, h3, h4⟩
  · omega
  · refine ⟨g, cap, rfl, hb, fun j u hu => ?_⟩
    have := h.cells (g := g) rfl j u hu
    rw [ad_at] at this
    exact this
theorem frozen_below {w w' : World} {p : Addr} {u : Value} (hb : Below w.heap.size w w') (hp : w.cell? p = some u) (hf : w.frozen? p = false) : w'.frozen? p = false := (hb.frozen (World.block_lt_of_cell? w _ hp)).trans hf
theorem own_setG {α : Type} {w : World} {B e sz : Nat} {g : α → List Value} (hg : ∀ x, (g x).length = sz) {b n c i j : Nat} {l : List α} {x y : α} {u : Value}
    (h : w.ownsRow B e sz (.slice (some ⟨b, 0, none⟩) n c) n (l.flatMap g)) (hi : l[i]? = some x) (hj : j < sz) (hy : g y = (g x).set j u) :
    (w.setCell ⟨b, i * sz + j, none⟩ u).ownsRow B e sz (.slice (some ⟨b, 0, none⟩) n c) n ((l.set i y).flatMap g) ∧ w.frozen? ⟨b, i * sz + j, none⟩ = false := by
  have hl : i < l.length := (List.getElem?_eq_some_iff.1 hi).1
  have hln : l.length * sz = n * sz := by rw [← flatMap_len g sz hg]; exact h.1
  rcases h.2 with ⟨h0, h1⟩ | ⟨b', cap, cur, hv, hb, hh, h1, h2, h3, h4⟩
  · cases h0
  · injection hv with e1 e2 e3
    injection e1 with e1; injection e1 with e1
    subst e1; subst e3
    have hk : Blk w b e cur := hh
    refine ⟨⟨by rw [flatMap_len g sz hg, List.length_set, hln], .inr ⟨b, c, cur.setIfInBounds (i * sz + j) u, rfl, hb, hk.set_ _ _, h1, h2, by simp [h3], ?_⟩⟩, hk.frozen _⟩
    rw [flatMap_setG g sz hg j hj u x y hy l i hi, Array.toList_setIfInBounds, List.take_set, h4]
theorem ACm.setop {B : Nat} {w : World} {g : Nat} {a : AC} {gv : Value} {bm br b n c i j : Nat} {x y : Op5} {u : Value} (h : ACm B w g a (.slice (some ⟨b, 0, none⟩) n c) gv bm br) (hn : a.ops.length = n) (hi : a.ops[i]? = some x) (hj : j < 5) (hy : gO y = (gO x).set j u) :
    ACm B (w.setCell ⟨b, i * 5 + j, none⟩ u) g { a with ops := a.ops.set i y } (.slice (some ⟨b, 0, none⟩) n c) gv bm br := by
  have ho := h.ops
  rw [hn] at ho
  obtain ⟨h1, _⟩ := own_setG (g := gO) (fun _ => rfl) ho hi hj hy
  have hb : (Value.slice (some ⟨b, 0, none⟩) n c).ownBlock = some b := rfl
  have hS : Chg (fun k => k = b) w (w.setCell ⟨b, i * 5 + j, none⟩ u) := (Chg.refl (fun k => k = b) w).setCell (p := ⟨b, i * 5 + j, none⟩) (fun _ => rfl) _
  refine ⟨h.ge, h.gem, h.ger, h.ne, hS.blk h.blk (fun e => own_ne_blk h.ops h.blk (by decide) (by rw [hb, e])), ?_, own_chg h.gts hS (fun k hk e => absurd (own_ty h.gts h.ops hk (by rw [hb, e])) (by decide)), map_chg h.mp hS (fun e => own_ne_map h.ops h.mp (by rw [hb, e])), map_chg h.mr hS (fun e => own_ne_map h.ops h.mr (by rw [hb, e])), h.rg⟩
  simp only [List.length_set, hn]
  exact h1
theorem alink_snoc (places : List (Nm × Nat)) (x : Nat × Nm) : ∀ (l : List (Nat × Nm)) (ops : List Op5), alink places (l ++ [x]) ops = match (alink places l ops)[x.1]? with
    | some o => (alink places l ops).set x.1 (ago o ((aget places x.2).getD 0))
    | none => alink places l ops
  | [], ops => rfl
  | (i, p) :: l, ops => by
    rw [List.cons_append]
    unfold alink
    exact alink_snoc places x l _
theorem lookup_at {w : World} {bm n : Nat} {l : List (Nm × Nat)} (h : OM w bm n l) (p : Nm) (hp : p.length ≤ 100) :
    (Instr.lookup 108 (.map (some bm)) (.string ⟨p.toArray⟩) false).run Tryd.prog w = .ok (.int .i64 (((aget l p).getD 0 : Nat) : Int)) w := by
  obtain ⟨c, h1, h2, _⟩ := h.lookup_int kStr Tryd.underlying108 Tryd.underlying3 (zeroI w) (key_of p hp)
  have h3 := (mapOf_all (H := Unit) l).2.1 p
  have h4 := h2.symm.trans h3
  simp only [DataW.lit.injEq, Lit.int.injEq, true_and] at h4
  rw [h1, h4]
def OpsPost (B : Nat) (w : World) (a : AC) (e : Ending) (w' : World) : Prop := ∃ v, e = .returned v ∧ w'.ownsRow B 99 5 v (aops a).length ((aops a).flatMap gO) ∧ Below B w w'
set_option maxHeartbeats 2000000 in
set_option maxRecDepth 100000 in
theorem asm_ops (B g : Nat) (a : AC) (w : World) (hB : B ≤ w.heap.size) (hin : ∀ x ∈ a.gotos, x.1 < a.ops.length ∧ x.2.length ≤ 100) (hol : a.ops.length ≤ 1000) (hgl : a.gotos.length ≤ 1000) (h : ACat B w g a) :
    Calls Tryd.prog 51 #[.pointer (some ⟨g, 0, none⟩)] w fun e w' => OpsPost B w a e w' := by
  obtain ⟨ov, gv, bm, br, h⟩ := h
  obtain ⟨Ao, co, rfl, hco, hco2⟩ := own_form h.ops
  obtain ⟨Ag, cg, rfl, _, _⟩ := own_form h.gts
  have HA := hid h; have HIN := hid hin
  have c2 : w.cell? ⟨g, 2, none⟩ = some (.slice Ag a.gotos.length cg) := h.blk.cell 2
  clear h hin
  obtain ⟨n, hn⟩ : ∃ n, a.ops.length = n := ⟨_, rfl⟩
  obtain ⟨q, hq⟩ : ∃ q, a.gotos.length = q := ⟨_, rfl⟩
  rw [hq] at c2 hgl
  rw [hn] at hol hco
  have HN := hid hn; have HQ := hid hq
  unfold maxLen at hco2
  have H0 := hid (show ACm B w g { a with ops := alink a.places (a.gotos.take 0) a.ops } (.slice Ao n co) (.slice Ag q cg) bm br by
    have h1 := HA.out
    rw [hn, hq] at h1
    exact h1)
  clear hn hq
  go_enter Tryd.func51, Tryd.ntmps51
  go_wp2_with fail
  go_loopw [12] (fun i wr => ∃ k : Nat, k ≤ q ∧ i = .int .i64 k ∧ Hid (ACm B wr g { a with ops := alink a.places (a.gotos.take k) a.ops } (.slice Ao n co) (.slice Ag q cg) bm br) ∧ Hid (Below B w wr)) (fun i _ => q - (intOf i).toNat)
  case atStart => exact ⟨0, Nat.zero_le _, rfl, H0, hid (Below.refl _ _)⟩
  case round =>
    obtain ⟨k, hk, rfl, HR, HBR⟩ := hrel
    by_cases hlt : k < q
    · have j1 : (k : Int) < (q : Int) := by omega
      obtain ⟨⟨i, p⟩, hx⟩ : ∃ x, a.gotos[k]? = some x := ⟨_, List.getElem?_eq_getElem (by rw [HQ.out]; exact hlt)⟩
      obtain ⟨hi, hpl⟩ := HIN.out _ (List.mem_of_getElem? hx)
      simp only at hi hpl
      rw [HN.out] at hi
      have hg := HR.out.gts
      obtain ⟨bg, cg', e, _, hgc⟩ := own_at hg (by rw [HQ.out]; omega)
      injection e with e1 e2 e3
      subst e1
      clear e2 e3
      have g0 : wr.cell? ⟨bg, k * 2, none⟩ = some (.int .i64 (i : Int)) := hgc (k * 2 + 0) _ (flatMap_at gJ 2 (fun _ => rfl) a.gotos k 0 _ hx (by decide))
      have g1 : wr.cell? ⟨bg, k * 2 + 1, none⟩ = some (.string ⟨p.toArray⟩) := hgc (k * 2 + 1) _ (flatMap_at gJ 2 (fun _ => rfl) a.gotos k 1 _ hx (by decide))
      have lbg := World.block_lt_of_cell? wr _ g0
      have hlk := alink_snoc a.places (i, p) (a.gotos.take k) a.ops
      rw [← take_next hx] at hlk
      have hll := alink_len a.places (a.gotos.take k) a.ops
      rw [HN.out] at hll
      obtain ⟨o, ho⟩ : ∃ o, (alink a.places (a.gotos.take k) a.ops)[i]? = some o := ⟨_, List.getElem?_eq_getElem (by rw [hll]; exact hi)⟩
      simp only [ho] at hlk
      have HLK := hid hlk
      have HO := hid ho
      have HLL := hid hll
      clear hg hgc hx hll hlk
      generalize alink a.places (a.gotos.take k) a.ops = lk at *
      have hop := HR.out.ops
      obtain ⟨bo, co', e, hbo, hoc⟩ := own_at hop (by show 0 < lk.length; rw [HLL.out]; omega)
      injection e with e1 e2 e3
      subst e1
      clear e2 e3
      have ok : wr.cell? ⟨bo, i * 5, none⟩ = some (.int .i64 o.k) := hoc (i * 5 + 0) _ (flatMap_at gO 5 (fun _ => rfl) lk i 0 _ ho (by decide))
      have f1 := (own_setG (y := { o with a := 0 }) (u := .int .i64 0) (g := gO) (fun _ => rfl) (by have := HR.out.ops; simp only [HLL.out] at this; exact this) ho (by decide : (1 : Nat) < 5) rfl).2
      have f2 := (own_setG (y := { o with b := 0 }) (u := .int .i64 0) (g := gO) (fun _ => rfl) (by have := HR.out.ops; simp only [HLL.out] at this; exact this) ho (by decide : (2 : Nat) < 5) rfl).2
      have oa : wr.cell? ⟨bo, i * 5 + 1, none⟩ = some (.int .i64 o.a) := hoc (i * 5 + 1) _ (flatMap_at gO 5 (fun _ => rfl) lk i 1 _ ho (by decide))
      have ob : wr.cell? ⟨bo, i * 5 + 2, none⟩ = some (.int .i64 o.b) := hoc (i * 5 + 2) _ (flatMap_at gO 5 (fun _ => rfl) lk i 2 _ ho (by decide))
      clear hop hoc ho
      have d0 : wr.cell? ⟨g, 0, none⟩ = some (.slice (some ⟨bo, 0, none⟩) n co) := HR.out.blk.cell 0
      have d1 : wr.cell? ⟨g, 1, none⟩ = some (.map (some bm)) := HR.out.blk.cell 1
      have ldg := HR.out.blk.lt
      have lbo := World.block_lt_of_cell? wr _ ok
      obtain ⟨bj, hbj⟩ : ∃ bj, wr.heap.size = bj := ⟨_, rfl⟩
      have HBJ := hid hbj
      have JB := hid (blkN wr 113 #[.int .i64 (i : Int), .string ⟨p.toArray⟩] bj hbj)
      have BN := hid (bnew (bnil wr) (.cells #[.int .i64 (i : Int), .string ⟨p.toArray⟩] 113))
      clear hbj
      go_upto_region 4 with fail
      have hbj := HBJ.out
      rw [hbj] at lbg ldg lbo ⊢
      generalize World.alloc wr _ = wy at *
      have HY := hid (HR.out.below BN.out)
      have ok := cell_below BN.out ok; have oa := cell_below BN.out oa; have ob := cell_below BN.out ob
      have d0 := cell_below BN.out d0; have d1 := cell_below BN.out d1
      have f1 : wy.frozen? ⟨bo, i * 5 + 1, none⟩ = false := frozen_below BN.out ‹wr.cell? ⟨bo, i * 5 + 1, none⟩ = _› f1
      have f2 : wy.frozen? ⟨bo, i * 5 + 2, none⟩ = false := frozen_below BN.out ‹wr.cell? ⟨bo, i * 5 + 2, none⟩ = _› f2
      have j0 : wy.cell? ⟨bj, 0, none⟩ = some (.int .i64 (i : Int)) := JB.out.cell 0
      have j2 : wy.cell? ⟨bj, 1, none⟩ = some (.string ⟨p.toArray⟩) := JB.out.cell 1
      obtain ⟨to_, hto⟩ : ∃ t, (aget a.places p).getD 0 = t := ⟨_, rfl⟩
      have hlook := hid (show (Instr.lookup 108 (.map (some bm)) (.string ⟨p.toArray⟩) false).run Tryd.prog wy.drew = .ok (.int .i64 (to_ : Int)) wy.drew by
        have h1 := lookup_at (w := wy.drew) HY.out.mp.drew p hpl
        rw [show (aget ({ a with ops := lk } : AC).places p).getD 0 = to_ from hto] at h1
        exact h1)
      rw [hto] at HLK
      have i2 : (i : Int) < (n : Int) := by omega
      clear hto
      refine wp_region_held_drew (S := (fun w' => w'.cell? ⟨g, 0, none⟩ = some (.slice (some ⟨bo, 0, none⟩) n co) ∧ w'.cell? ⟨g, 1, none⟩ = some (.map (some bm)) ∧ w'.cell? ⟨bj, 0, none⟩ = some (.int .i64 (i : Int)) ∧ w'.cell? ⟨bj, 1, none⟩ = some (.string ⟨p.toArray⟩) ∧ (Instr.lookup 108 (.map (some bm)) (.string ⟨p.toArray⟩) false).run Tryd.prog w' = .ok (.int .i64 (to_ : Int)) w')) (by kernel_rfl) ?_ (fun hHeld => ?_)
      · (try dsimp only); exact ⟨d0, d1, j0, j2, hlook.out⟩
      refine wpAnyH_take (i := 0) (oi := ⟨some 16, _, _, _, _, _⟩) (v := ?_) rfl (by kernel_rfl) (by kernel_rfl) (by kernel_rfl) (fun _ _ _ h => h) (Or.inl ⟨by rfl, ?_⟩) (by assumption) ?_
      rotate_left
      · intro w hSw; (try dsimp only at hSw); go_simp <;> with_reducible rfl
      try simp only [Act.put, List.setIfInBounds_toArray, List.set_cons_zero, List.set_cons_succ]
      refine wpAnyH_take (i := 1) (oi := ⟨some 17, _, _, _, _, _⟩) (v := ?_) rfl (by kernel_rfl) (by kernel_rfl) (by kernel_rfl) (fun _ _ _ h => h) (Or.inl ⟨by rfl, ?_⟩) (by assumption) ?_
      rotate_left
      · intro w hSw; (try dsimp only at hSw); go_simp <;> with_reducible rfl
      try simp only [Act.put, List.setIfInBounds_toArray, List.set_cons_zero, List.set_cons_succ]
      refine wpAnyH_take (i := 2) (oi := ⟨some 18, _, _, _, _, _⟩) (v := ?_) rfl (by kernel_rfl) (by kernel_rfl) (by kernel_rfl) (fun _ _ _ h => h) (Or.inl ⟨by rfl, ?_⟩) (by assumption) ?_
      rotate_left
      · intro w hSw; (try dsimp only at hSw); go_simp <;> with_reducible rfl
      try simp only [Act.put, List.setIfInBounds_toArray, List.set_cons_zero, List.set_cons_succ]
      refine wpAnyH_take (i := 3) (oi := ⟨some 19, _, _, _, _, _⟩) (v := ?_) rfl (by kernel_rfl) (by kernel_rfl) (by kernel_rfl) (fun _ _ _ h => h) (Or.inl ⟨by rfl, ?_⟩) (by assumption) ?_
      rotate_left
      · intro w hSw; (try dsimp only at hSw); go_simp <;> with_reducible rfl
      try simp only [Act.put, List.setIfInBounds_toArray, List.set_cons_zero, List.set_cons_succ]
      refine wpAnyH_take (i := 4) (oi := ⟨some 20, _, _, _, _, _⟩) (v := ?_) rfl (by kernel_rfl) (by kernel_rfl) (by kernel_rfl) (fun _ _ _ h => h) (Or.inl ⟨by rfl, ?_⟩) (by assumption) ?_
      rotate_left
      · intro w hSw; (try dsimp only at hSw); go_simp <;> with_reducible rfl
      try simp only [Act.put, List.setIfInBounds_toArray, List.set_cons_zero, List.set_cons_succ]
      refine wpAnyH_take (i := 5) (oi := ⟨some 21, _, _, _, _, _⟩) (v := ?_) rfl (by kernel_rfl) (by kernel_rfl) (by kernel_rfl) (fun _ _ _ h => h) (Or.inl ⟨by rfl, ?_⟩) (by assumption) ?_
      rotate_left
      · intro w hSw; (try dsimp only at hSw); go_simp <;> with_reducible rfl
      try simp only [Act.put, List.setIfInBounds_toArray, List.set_cons_zero, List.set_cons_succ]
      refine wpAnyH_take (i := 6) (oi := ⟨some 22, _, _, _, _, _⟩) (v := ?_) rfl (by kernel_rfl) (by kernel_rfl) (by kernel_rfl) (fun _ _ _ h => h) (Or.inl ⟨by rfl, ?_⟩) (by assumption) ?_
      rotate_left
      · intro w hSw; (try dsimp only at hSw); go_simp <;> with_reducible rfl
      try simp only [Act.put, List.setIfInBounds_toArray, List.set_cons_zero, List.set_cons_succ]
      refine wpAnyH_take (i := 7) (oi := ⟨some 23, _, _, _, _, _⟩) (v := ?_) rfl (by kernel_rfl) (by kernel_rfl) (by kernel_rfl) (fun _ _ _ h => h) (Or.inl ⟨by rfl, ?_⟩) (by assumption) ?_
      rotate_left
      · intro w hSw; (try dsimp only at hSw); go_simp <;> with_reducible rfl
      try simp only [Act.put, List.setIfInBounds_toArray, List.set_cons_zero, List.set_cons_succ]
      refine wpAnyH_take (i := 8) (oi := ⟨some 24, _, _, _, _, _⟩) (v := ?_) rfl (by kernel_rfl) (by kernel_rfl) (by kernel_rfl) (fun _ _ _ h => h) (Or.inl ⟨by rfl, ?_⟩) (by assumption) ?_
      rotate_left
      · intro w hSw; (try dsimp only at hSw); go_simp <;> with_reducible rfl
      try simp only [Act.put, List.setIfInBounds_toArray, List.set_cons_zero, List.set_cons_succ]
      refine wpAnyH_take (i := 9) (oi := ⟨some 25, _, _, _, _, _⟩) (v := ?_) rfl (by kernel_rfl) (by kernel_rfl) (by kernel_rfl) (fun _ _ _ h => h) (Or.inl ⟨by rfl, ?_⟩) (by assumption) ?_
      rotate_left
      · intro w hSw; (try dsimp only at hSw); go_simp <;> with_reducible rfl
      try simp only [Act.put, List.setIfInBounds_toArray, List.set_cons_zero, List.set_cons_succ]
      refine wpAnyH_take (i := 10) (oi := ⟨some 26, _, _, _, _, _⟩) (v := ?_) rfl (by kernel_rfl) (by kernel_rfl) (by kernel_rfl) (fun _ _ _ h => h) (Or.inl ⟨by rfl, ?_⟩) (by assumption) ?_
      rotate_left
      · intro w hSw; (try dsimp only at hSw); go_simp <;> with_reducible rfl
      try simp only [Act.put, List.setIfInBounds_toArray, List.set_cons_zero, List.set_cons_succ]
      refine wpAnyH_take (i := 11) (oi := ⟨some 27, _, _, _, _, _⟩) (v := ?_) rfl (by kernel_rfl) (by kernel_rfl) (by kernel_rfl) (fun _ _ _ h => h) (Or.inl ⟨by rfl, ?_⟩) (by assumption) ?_
      rotate_left
      · intro w hSw; (try dsimp only at hSw); go_simp <;> with_reducible rfl
      try simp only [Act.put, List.setIfInBounds_toArray, List.set_cons_zero, List.set_cons_succ]
      refine wpAnyH_take (i := 12) (oi := ⟨some 28, _, _, _, _, _⟩) (v := ?_) rfl (by kernel_rfl) (by kernel_rfl) (by kernel_rfl) (fun _ _ _ h => h) (Or.inl ⟨by rfl, ?_⟩) (by assumption) ?_
      rotate_left
      · intro w hSw; (try dsimp only at hSw); go_simp <;> with_reducible rfl
      try simp only [Act.put, List.setIfInBounds_toArray, List.set_cons_zero, List.set_cons_succ]
      refine wpAnyH_take (i := 13) (oi := ⟨some 29, _, _, _, _, _⟩) (v := ?_) rfl (by kernel_rfl) (by kernel_rfl) (by kernel_rfl) (fun _ _ _ h => h) (Or.inl ⟨by rfl, ?_⟩) (by assumption) ?_
      rotate_left
      · intro w hSw; (try dsimp only at hSw); go_simp <;> with_reducible rfl
      try simp only [Act.put, List.setIfInBounds_toArray, List.set_cons_zero, List.set_cons_succ]
      refine wpAnyH_take (i := 14) (oi := ⟨some 5, _, _, _, _, _⟩) (v := ?_) rfl (by kernel_rfl) (by kernel_rfl) (by kernel_rfl) (fun _ _ _ h => h) (Or.inl ⟨by rfl, ?_⟩) (by assumption) ?_
      rotate_left
      · intro w hSw; (try dsimp only at hSw); go_simp <;> with_reducible rfl
      try simp only [Act.put, List.setIfInBounds_toArray, List.set_cons_zero, List.set_cons_succ]
      refine wpAnyH_take (i := 15) (oi := ⟨some 6, _, _, _, _, _⟩) (v := ?_) rfl (by kernel_rfl) (by kernel_rfl) (by kernel_rfl) (fun _ _ _ h => h) (Or.inl ⟨by rfl, ?_⟩) (by assumption) ?_
      rotate_left
      · intro w hSw; (try dsimp only at hSw); go_simp <;> with_reducible rfl
      try simp only [Act.put, List.setIfInBounds_toArray, List.set_cons_zero, List.set_cons_succ]
      refine wpAnyH_done (by kernel_rfl) ?_ _
      rotate_left
      have JZ := hid (BN.out)
      cases hk10 : decide (o.k = 10) with
      | true =>
        have hk1 : (o.k == 10) = true := by simpa using hk10
        have hk2 : o.k = 10 := by simpa using hk10
        have HS1 := hid (HY.out.setop (j := 1) (y := ago o to_) (u := .int .i64 (to_ : Int)) HLL.out HO.out (by decide) (by unfold ago; rw [if_pos hk2]; rfl))
        clear hk10 hk2
        go_wp2
        go_roundw
        case rel => exact ⟨k + 1, by omega, by go_num, hid (by rw [HLK.out]; exact HS1.out.below (bnil _).drew), hid (((HBR.out.trans (JZ.out.mono (Nat.le_trans hB HBR.out.size))).setCell (p := ⟨bo, i * 5 + 1, none⟩) hbo _).drew)⟩
        case measure => simp [intOf]; omega
      | false =>
        have hk1 : (o.k == 10) = false := by simpa using hk10
        have hk2 : ¬ o.k = 10 := by simpa using hk10
        have HS1 := hid (HY.out.setop (j := 2) (y := ago o to_) (u := .int .i64 (to_ : Int)) HLL.out HO.out (by decide) (by unfold ago; rw [if_neg hk2]; rfl))
        clear hk10 hk2
        go_wp2
        go_roundw
        case rel => exact ⟨k + 1, by omega, by go_num, hid (by rw [HLK.out]; exact HS1.out.below (bnil _).drew), hid (((HBR.out.trans (JZ.out.mono (Nat.le_trans hB HBR.out.size))).setCell (p := ⟨bo, i * 5 + 2, none⟩) hbo _).drew)⟩
        case measure => simp [intOf]; omega
    · obtain rfl : k = q := by omega
      have j1 : ¬ (k : Int) < (k : Int) := by omega
      have E := hid (show a.gotos.take k = a.gotos from List.take_of_length_le (by rw [HQ.out]; exact Nat.le_refl _))
      rw [E.out] at HR
      have d0 : wr.cell? ⟨g, 0, none⟩ = some (.slice Ao n co) := HR.out.blk.cell 0
      go_wp2
      go_ret
      exact ⟨_, rfl, by have h := HR.out.ops; have e : (alink a.places a.gotos a.ops).length = n := by rw [alink_len]; exact HN.out
                        simp only [e] at h; unfold aops; rw [e]; exact h, HBR.out⟩
end Go.Proofs.YtabmkjokeeakdaaDoor
