/-
  The machine of package vm in memory: the walk of Step.
-/
import Derived.Test.YtabmkjokeeakdaaDoorVmMem
import Derived.StillTailTactics
namespace Go.Proofs.YtabmkjokeeakdaaDoor
open Go.RowKit
set_option linter.unusedVariables false

/-- what an instruction of a code of n instructions may be -/
structure OpOk (n : Nat) (o : Op5) : Prop where
  k : 1 ≤ o.k ∧ o.k ≤ 17
  a : o.k ≠ 10 → o.k ≠ 17 → 0 ≤ o.a ∧ o.a < 24
  ap : o.k = 10 → 0 ≤ o.a ∧ o.a ≤ (n : Int)
  b : (2 ≤ o.k ∧ o.k ≤ 9) ∨ (13 ≤ o.k ∧ o.k ≤ 15) → 0 ≤ o.b ∧ o.b < 24
  bp : o.k = 11 ∨ o.k = 12 → 0 ≤ o.b ∧ o.b ≤ (n : Int)
  c : 3 ≤ o.k ∧ o.k ≤ 9 → 0 ≤ o.c ∧ o.c < 24
  d : o.k = 15 → 0 ≤ o.d ∧ o.d < 24
abbrev gO : Op5 → List Value := fun o => [.int .i64 o.k, .int .i64 o.a, .int .i64 o.b, .int .i64 o.c, .int .i64 o.d]
theorem nat_of {x : Int} {n : Nat} (h : 0 ≤ x ∧ x < (n : Int)) : ∃ i : Nat, i < n ∧ x = (i : Int) := ⟨x.toNat, by omega, by omega⟩
theorem Sl.opAt {w : World} {A : Option Addr} {n i : Nat} {code : List Op5} (h : Sl w 5 A n (code.flatMap gO)) (hi : i < n) :
    ∃ ad o, A = some ad ∧ code[i]? = some o ∧ w.cell? (ad.add (i * 5)) = some (.int .i64 o.k) ∧ w.cell? ⟨(ad.add (i * 5)).block, (ad.add (i * 5)).off + 1, none⟩ = some (.int .i64 o.a) ∧ w.cell? ⟨(ad.add (i * 5)).block, (ad.add (i * 5)).off + 2, none⟩ = some (.int .i64 o.b) ∧
      w.cell? ⟨(ad.add (i * 5)).block, (ad.add (i * 5)).off + 3, none⟩ = some (.int .i64 o.c) ∧ w.cell? ⟨(ad.add (i * 5)).block, (ad.add (i * 5)).off + 4, none⟩ = some (.int .i64 o.d) := by
  obtain ⟨ad, e, hc⟩ := h.2 (by omega)
  have hl : i < code.length := by have := h.1; rw [flatMap_len gO 5 (fun _ => rfl)] at this; omega
  have hx := List.getElem?_eq_getElem hl
  have F := fun (j : Nat) (hj : j < 5) (u : Value) (hu : (gO code[i])[j]? = some u) => hc (i * 5 + j) u (by rw [flatMap_at gO 5 (fun _ => rfl) code i j _ hx hj]; exact hu)
  refine ⟨ad, code[i], e, hx, ?_, ?_, ?_, ?_, ?_⟩
  · exact F 0 (by decide) _ rfl
  · exact cell_next (by decide) (F 1 (by decide) _ rfl)
  · exact cell_next (by decide) (F 2 (by decide) _ rfl)
  · exact cell_next (by decide) (F 3 (by decide) _ rfl)
  · exact cell_next (by decide) (F 4 (by decide) _ rfl)
/-! ### the cases -/
section
variable {B : Nat} {w w' : World} {g : Nat} {cv tv wv : Value} {t : Th} {ws : List Int}
theorem SP.drew {t' : Th} {ws' : List Int} (h : SP B w w' g cv tv wv t' ws') : SP B w w'.drew g cv tv wv t' ws' := by
  obtain ⟨tv', h1, h2, h3, h4⟩ := h
  exact ⟨tv', ⟨h1.blk, h1.told, h1.len⟩, h2, h3, h4.drew⟩
theorem SP.reg {a : Nat} (h : TH B w g cv t tv) (hw : WS B w wv ws) (ha : a < 24) (x : Int) (ov : Bool) (o : Obj) :
    SP B w ((((w.setCell ⟨g, 25, none⟩ (.int .i64 ((t.pc : Int) + 1))).setCell ⟨g, 1 + a, none⟩ (.int .i64 x)).setCell ⟨g, 28, none⟩ (.bool ov)).alloc o) g cv tv wv { t with regs := vset t.regs a x, pc := t.pc + 1, over := ov } ws := by
  have h1 := h.blk.spc h.len ((t.pc : Int) + 1)
  have h2 := h1.sreg h.len ha x
  have hl : (vset t.regs a x).length = 24 := by rw [vset_len]; exact h.len
  have h3 := (h2.sov hl ov).alloc o
  refine SP.same h hw (t' := { t with regs := vset t.regs a x, pc := t.pc + 1, over := ov }) ?_ rfl hl (((((Chg.refl (fun k => k = g) w).setCell (p := ⟨g, 25, none⟩) (fun _ => rfl) _).setCell (p := ⟨g, 1 + a, none⟩) (fun _ => rfl) _).setCell (p := ⟨g, 28, none⟩) (fun _ => rfl) _).alloc o)
  exact h3
theorem wp_still_drew {P : Program} {id : Nat} {Q : Exit → Act → World → Prop} {a : Act} {w : World} {l : List Oper} (n : Nat) (hm : P.follows .mixedOrders = true) (hB : Region.lexTailB .any l.toArray n = true)
    (h : wpStill P l.toArray w.drew (fun a' => wpList P l.toArray Q (l.drop n) a' w.drew) (l.take n) a) : (Code.region id l.toArray true).wp P Q a w := wp_region_still_tail n hm hB h
theorem vstep_reg {code : List Op5} {n : Nat} {o : Op5} {r' : List Int} (hop : code[t.pc]? = some o) (hov : t.over = false) (hl : code.length = n) (e : vdo o { t with pc := t.pc + 1 } ws = ({ t with pc := t.pc + 1, regs := r' }, ws)) {ov : Bool} (hE : decide (t.pc + 1 = n) = ov) :
    vstep code t ws = ({ t with regs := r', pc := t.pc + 1, over := ov }, ws) := by
  unfold vstep
  rw [if_neg (by rw [hov]; decide), hop]
  simp only [e]
  rw [hov, hl, hE, Bool.false_or]
end
set_option maxHeartbeats 2000000 in
set_option maxRecDepth 100000 in
theorem vs_set (B g n cn a : Nat) (b c d : Int) (w : World) (A : Option Addr) (tv wv : Value) (t : Th) (ws : List Int) (code : List Op5) (ha : a < 24) (hn : n ≤ 200) (hop : code[t.pc]? = some ⟨1, (a : Int), b, c, d⟩) (hov : t.over = false)
    (hcd : Sl w 5 A n (code.flatMap gO)) (h : TH B w g (.slice A n cn) t tv) (hw : WS B w wv ws) :
    Calls Tryd.prog 61 #[.pointer (some ⟨g, 0, none⟩), wv] w fun e w' => e = .returned (.tuple #[]) ∧ SP B w w' g (.slice A n cn) tv wv (vstep code t ws).1 (vstep code t ws).2 := by
  have hlc : code.length = n := by have := hcd.1; rw [flatMap_len gO 5 (fun _ => rfl)] at this; omega
  have hpc : t.pc < n := by rw [← hlc]; exact (List.getElem?_eq_some_iff.1 hop).1
  obtain ⟨ad, o, rfl, ho, c1, c2, c3, c4, c5⟩ := hcd.opAt hpc
  rw [hop] at ho; injection ho with ho; subst ho
  simp only at c1 c2 c3 c4 c5
  have H := hid h; have HW := hid hw
  have l1 := h.blk.lt
  have HV := fun (ov : Bool) (hE : decide (t.pc + 1 = n) = ov) => vstep_reg (r' := vset t.regs a (b)) (ws := ws) hop hov hlc rfl hE
  obtain ⟨c0, f0⟩ := h.blk.c0
  obtain ⟨cp, fp⟩ := h.blk.cpc h.len
  obtain ⟨cra, fra⟩ := h.blk.creg h.len ha
  obtain ⟨co, fo⟩ := h.blk.cov h.len
  rw [hov] at co
  have i1 : (t.pc : Int) < (n : Int) := by omega
  have i2 : (a : Int) < 24 := by omega
  clear h hw hlc hop hov hcd
  have lad : (ad.add (t.pc * 5)).block < w.heap.size := World.block_lt_of_cell? w _ c1
  go_enter Tryd.func61, Tryd.ntmps61
  go_wp2
  go_region
  go_wp2
  go_region
  all_goals
    by_cases hE : t.pc + 1 = n
    · have e1 : ((t.pc : Int) + 1 == (n : Int)) = true := by simp; omega
      go_wp2
      go_region
      all_goals
        go_wp2
        go_end0
        rw [HV true (by simp [hE])]
        refine ⟨rfl, ?_⟩
        iterate 3 (refine SP.drew ?_)
        exact SP.reg H.out HW.out ha _ _ _
    · have e1 : ((t.pc : Int) + 1 == (n : Int)) = false := by simp; omega
      go_wp2
      go_region
      all_goals
        go_wp2
        go_end0
        rw [HV false (by simp [hE])]
        refine ⟨rfl, ?_⟩
        iterate 3 (refine SP.drew ?_)
        exact SP.reg H.out HW.out ha _ _ _
set_option maxHeartbeats 2000000 in
set_option maxRecDepth 100000 in
theorem vs_copy (B g n cn a b : Nat) (c d : Int) (w : World) (A : Option Addr) (tv wv : Value) (t : Th) (ws : List Int) (code : List Op5) (ha : a < 24) (hb : b < 24) (hn : n ≤ 200) (hop : code[t.pc]? = some ⟨2, (a : Int), (b : Int), c, d⟩) (hov : t.over = false)
    (hcd : Sl w 5 A n (code.flatMap gO)) (h : TH B w g (.slice A n cn) t tv) (hw : WS B w wv ws) :
    Calls Tryd.prog 61 #[.pointer (some ⟨g, 0, none⟩), wv] w fun e w' => e = .returned (.tuple #[]) ∧ SP B w w' g (.slice A n cn) tv wv (vstep code t ws).1 (vstep code t ws).2 := by
  have hlc : code.length = n := by have := hcd.1; rw [flatMap_len gO 5 (fun _ => rfl)] at this; omega
  have hpc : t.pc < n := by rw [← hlc]; exact (List.getElem?_eq_some_iff.1 hop).1
  obtain ⟨ad, o, rfl, ho, c1, c2, c3, c4, c5⟩ := hcd.opAt hpc
  rw [hop] at ho; injection ho with ho; subst ho
  simp only at c1 c2 c3 c4 c5
  have H := hid h; have HW := hid hw
  have l1 := h.blk.lt
  have HV := fun (ov : Bool) (hE : decide (t.pc + 1 = n) = ov) => vstep_reg (r' := vset t.regs a (vget t.regs b)) (ws := ws) hop hov hlc rfl hE
  obtain ⟨c0, f0⟩ := h.blk.c0
  obtain ⟨cp, fp⟩ := h.blk.cpc h.len
  obtain ⟨cra, fra⟩ := h.blk.creg h.len ha
  obtain ⟨crb, _⟩ := h.blk.creg h.len hb
  obtain ⟨co, fo⟩ := h.blk.cov h.len
  rw [hov] at co
  have i1 : (t.pc : Int) < (n : Int) := by omega
  have i2 : (a : Int) < 24 := by omega
  have i3 : (b : Int) < 24 := by omega
  clear h hw hlc hop hov hcd
  have lad : (ad.add (t.pc * 5)).block < w.heap.size := World.block_lt_of_cell? w _ c1
  go_enter Tryd.func61, Tryd.ntmps61
  go_wp2
  go_region
  go_wp2
  go_region
  all_goals
    by_cases hE : t.pc + 1 = n
    · have e1 : ((t.pc : Int) + 1 == (n : Int)) = true := by simp; omega
      go_wp2
      go_region
      all_goals
        go_wp2
        go_end0
        rw [HV true (by simp [hE])]
        refine ⟨rfl, ?_⟩
        iterate 3 (refine SP.drew ?_)
        exact SP.reg H.out HW.out ha _ _ _
    · have e1 : ((t.pc : Int) + 1 == (n : Int)) = false := by simp; omega
      go_wp2
      go_region
      all_goals
        go_wp2
        go_end0
        rw [HV false (by simp [hE])]
        refine ⟨rfl, ?_⟩
        iterate 3 (refine SP.drew ?_)
        exact SP.reg H.out HW.out ha _ _ _
set_option maxHeartbeats 2000000 in
set_option maxRecDepth 100000 in
theorem vs_add (B g n cn a b c : Nat) (d : Int) (w : World) (A : Option Addr) (tv wv : Value) (t : Th) (ws : List Int) (code : List Op5) (ha : a < 24) (hb : b < 24) (hc : c < 24) (hn : n ≤ 200) (hop : code[t.pc]? = some ⟨3, (a : Int), (b : Int), (c : Int), d⟩) (hov : t.over = false)
    (hcd : Sl w 5 A n (code.flatMap gO)) (h : TH B w g (.slice A n cn) t tv) (hw : WS B w wv ws) :
    Calls Tryd.prog 61 #[.pointer (some ⟨g, 0, none⟩), wv] w fun e w' => e = .returned (.tuple #[]) ∧ SP B w w' g (.slice A n cn) tv wv (vstep code t ws).1 (vstep code t ws).2 := by
  have hlc : code.length = n := by have := hcd.1; rw [flatMap_len gO 5 (fun _ => rfl)] at this; omega
  have hpc : t.pc < n := by rw [← hlc]; exact (List.getElem?_eq_some_iff.1 hop).1
  obtain ⟨ad, o, rfl, ho, c1, c2, c3, c4, c5⟩ := hcd.opAt hpc
  rw [hop] at ho; injection ho with ho; subst ho
  simp only at c1 c2 c3 c4 c5
  have H := hid h; have HW := hid hw
  have l1 := h.blk.lt
  have HV := fun (ov : Bool) (hE : decide (t.pc + 1 = n) = ov) => vstep_reg (r' := vset t.regs a (wrap64 (vget t.regs b + vget t.regs c))) (ws := ws) hop hov hlc rfl hE
  obtain ⟨c0, f0⟩ := h.blk.c0
  obtain ⟨cp, fp⟩ := h.blk.cpc h.len
  obtain ⟨cra, fra⟩ := h.blk.creg h.len ha
  obtain ⟨crb, _⟩ := h.blk.creg h.len hb
  obtain ⟨crc, _⟩ := h.blk.creg h.len hc
  obtain ⟨co, fo⟩ := h.blk.cov h.len
  rw [hov] at co
  have i1 : (t.pc : Int) < (n : Int) := by omega
  have i2 : (a : Int) < 24 := by omega
  have i3 : (b : Int) < 24 := by omega
  have i4 : (c : Int) < 24 := by omega
  clear h hw hlc hop hov hcd
  have lad : (ad.add (t.pc * 5)).block < w.heap.size := World.block_lt_of_cell? w _ c1
  go_enter Tryd.func61, Tryd.ntmps61
  go_wp2
  go_region
  go_wp2
  go_region
  all_goals
    by_cases hE : t.pc + 1 = n
    · have e1 : ((t.pc : Int) + 1 == (n : Int)) = true := by simp; omega
      go_wp2
      go_region
      all_goals
        go_wp2
        go_end0
        rw [HV true (by simp [hE])]
        refine ⟨rfl, ?_⟩
        iterate 3 (refine SP.drew ?_)
        exact SP.reg H.out HW.out ha _ _ _
    · have e1 : ((t.pc : Int) + 1 == (n : Int)) = false := by simp; omega
      go_wp2
      go_region
      all_goals
        go_wp2
        go_end0
        rw [HV false (by simp [hE])]
        refine ⟨rfl, ?_⟩
        iterate 3 (refine SP.drew ?_)
        exact SP.reg H.out HW.out ha _ _ _
set_option maxHeartbeats 2000000 in
set_option maxRecDepth 100000 in
theorem vs_sub (B g n cn a b c : Nat) (d : Int) (w : World) (A : Option Addr) (tv wv : Value) (t : Th) (ws : List Int) (code : List Op5) (ha : a < 24) (hb : b < 24) (hc : c < 24) (hn : n ≤ 200) (hop : code[t.pc]? = some ⟨4, (a : Int), (b : Int), (c : Int), d⟩) (hov : t.over = false)
    (hcd : Sl w 5 A n (code.flatMap gO)) (h : TH B w g (.slice A n cn) t tv) (hw : WS B w wv ws) :
    Calls Tryd.prog 61 #[.pointer (some ⟨g, 0, none⟩), wv] w fun e w' => e = .returned (.tuple #[]) ∧ SP B w w' g (.slice A n cn) tv wv (vstep code t ws).1 (vstep code t ws).2 := by
  have hlc : code.length = n := by have := hcd.1; rw [flatMap_len gO 5 (fun _ => rfl)] at this; omega
  have hpc : t.pc < n := by rw [← hlc]; exact (List.getElem?_eq_some_iff.1 hop).1
  obtain ⟨ad, o, rfl, ho, c1, c2, c3, c4, c5⟩ := hcd.opAt hpc
  rw [hop] at ho; injection ho with ho; subst ho
  simp only at c1 c2 c3 c4 c5
  have H := hid h; have HW := hid hw
  have l1 := h.blk.lt
  have HV := fun (ov : Bool) (hE : decide (t.pc + 1 = n) = ov) => vstep_reg (r' := vset t.regs a (wrap64 (vget t.regs b - vget t.regs c))) (ws := ws) hop hov hlc rfl hE
  obtain ⟨c0, f0⟩ := h.blk.c0
  obtain ⟨cp, fp⟩ := h.blk.cpc h.len
  obtain ⟨cra, fra⟩ := h.blk.creg h.len ha
  obtain ⟨crb, _⟩ := h.blk.creg h.len hb
  obtain ⟨crc, _⟩ := h.blk.creg h.len hc
  obtain ⟨co, fo⟩ := h.blk.cov h.len
  rw [hov] at co
  have i1 : (t.pc : Int) < (n : Int) := by omega
  have i2 : (a : Int) < 24 := by omega
  have i3 : (b : Int) < 24 := by omega
  have i4 : (c : Int) < 24 := by omega
  clear h hw hlc hop hov hcd
  have lad : (ad.add (t.pc * 5)).block < w.heap.size := World.block_lt_of_cell? w _ c1
  go_enter Tryd.func61, Tryd.ntmps61
  go_wp2
  go_region
  go_wp2
  go_region
  all_goals
    by_cases hE : t.pc + 1 = n
    · have e1 : ((t.pc : Int) + 1 == (n : Int)) = true := by simp; omega
      go_wp2
      go_region
      all_goals
        go_wp2
        go_end0
        rw [HV true (by simp [hE])]
        refine ⟨rfl, ?_⟩
        iterate 3 (refine SP.drew ?_)
        exact SP.reg H.out HW.out ha _ _ _
    · have e1 : ((t.pc : Int) + 1 == (n : Int)) = false := by simp; omega
      go_wp2
      go_region
      all_goals
        go_wp2
        go_end0
        rw [HV false (by simp [hE])]
        refine ⟨rfl, ?_⟩
        iterate 3 (refine SP.drew ?_)
        exact SP.reg H.out HW.out ha _ _ _
set_option maxHeartbeats 2000000 in
set_option maxRecDepth 100000 in
theorem vs_mul (B g n cn a b c : Nat) (d : Int) (w : World) (A : Option Addr) (tv wv : Value) (t : Th) (ws : List Int) (code : List Op5) (ha : a < 24) (hb : b < 24) (hc : c < 24) (hn : n ≤ 200) (hop : code[t.pc]? = some ⟨5, (a : Int), (b : Int), (c : Int), d⟩) (hov : t.over = false)
    (hcd : Sl w 5 A n (code.flatMap gO)) (h : TH B w g (.slice A n cn) t tv) (hw : WS B w wv ws) :
    Calls Tryd.prog 61 #[.pointer (some ⟨g, 0, none⟩), wv] w fun e w' => e = .returned (.tuple #[]) ∧ SP B w w' g (.slice A n cn) tv wv (vstep code t ws).1 (vstep code t ws).2 := by
  have hlc : code.length = n := by have := hcd.1; rw [flatMap_len gO 5 (fun _ => rfl)] at this; omega
  have hpc : t.pc < n := by rw [← hlc]; exact (List.getElem?_eq_some_iff.1 hop).1
  obtain ⟨ad, o, rfl, ho, c1, c2, c3, c4, c5⟩ := hcd.opAt hpc
  rw [hop] at ho; injection ho with ho; subst ho
  simp only at c1 c2 c3 c4 c5
  have H := hid h; have HW := hid hw
  have l1 := h.blk.lt
  have HV := fun (ov : Bool) (hE : decide (t.pc + 1 = n) = ov) => vstep_reg (r' := vset t.regs a (wrap64 (vget t.regs b * vget t.regs c))) (ws := ws) hop hov hlc rfl hE
  obtain ⟨c0, f0⟩ := h.blk.c0
  obtain ⟨cp, fp⟩ := h.blk.cpc h.len
  obtain ⟨cra, fra⟩ := h.blk.creg h.len ha
  obtain ⟨crb, _⟩ := h.blk.creg h.len hb
  obtain ⟨crc, _⟩ := h.blk.creg h.len hc
  obtain ⟨co, fo⟩ := h.blk.cov h.len
  rw [hov] at co
  have i1 : (t.pc : Int) < (n : Int) := by omega
  have i2 : (a : Int) < 24 := by omega
  have i3 : (b : Int) < 24 := by omega
  have i4 : (c : Int) < 24 := by omega
  clear h hw hlc hop hov hcd
  have lad : (ad.add (t.pc * 5)).block < w.heap.size := World.block_lt_of_cell? w _ c1
  go_enter Tryd.func61, Tryd.ntmps61
  go_wp2
  go_region
  go_wp2
  go_region
  all_goals
    by_cases hE : t.pc + 1 = n
    · have e1 : ((t.pc : Int) + 1 == (n : Int)) = true := by simp; omega
      go_wp2
      go_region
      all_goals
        go_wp2
        go_end0
        rw [HV true (by simp [hE])]
        refine ⟨rfl, ?_⟩
        iterate 3 (refine SP.drew ?_)
        exact SP.reg H.out HW.out ha _ _ _
    · have e1 : ((t.pc : Int) + 1 == (n : Int)) = false := by simp; omega
      go_wp2
      go_region
      all_goals
        go_wp2
        go_end0
        rw [HV false (by simp [hE])]
        refine ⟨rfl, ?_⟩
        iterate 3 (refine SP.drew ?_)
        exact SP.reg H.out HW.out ha _ _ _
set_option maxHeartbeats 2000000 in
set_option maxRecDepth 100000 in
theorem vs_div (B g n cn a b c : Nat) (d : Int) (w : World) (A : Option Addr) (tv wv : Value) (t : Th) (ws : List Int) (code : List Op5) (ha : a < 24) (hb : b < 24) (hc : c < 24) (hn : n ≤ 200) (hop : code[t.pc]? = some ⟨6, (a : Int), (b : Int), (c : Int), d⟩) (hov : t.over = false)
    (hcd : Sl w 5 A n (code.flatMap gO)) (h : TH B w g (.slice A n cn) t tv) (hw : WS B w wv ws) :
    Calls Tryd.prog 61 #[.pointer (some ⟨g, 0, none⟩), wv] w fun e w' => e = .returned (.tuple #[]) ∧ SP B w w' g (.slice A n cn) tv wv (vstep code t ws).1 (vstep code t ws).2 := by
  have hlc : code.length = n := by have := hcd.1; rw [flatMap_len gO 5 (fun _ => rfl)] at this; omega
  have hpc : t.pc < n := by rw [← hlc]; exact (List.getElem?_eq_some_iff.1 hop).1
  obtain ⟨ad, o, rfl, ho, c1, c2, c3, c4, c5⟩ := hcd.opAt hpc
  rw [hop] at ho; injection ho with ho; subst ho
  simp only at c1 c2 c3 c4 c5
  have H := hid h; have HW := hid hw
  have l1 := h.blk.lt
  have HV := fun (ov : Bool) (hE : decide (t.pc + 1 = n) = ov) => vstep_reg (r' := vset t.regs a (vquo (vget t.regs b) (vget t.regs c) false)) (ws := ws) hop hov hlc rfl hE
  obtain ⟨c0, f0⟩ := h.blk.c0
  obtain ⟨cp, fp⟩ := h.blk.cpc h.len
  obtain ⟨cra, fra⟩ := h.blk.creg h.len ha
  obtain ⟨crb, _⟩ := h.blk.creg h.len hb
  obtain ⟨crc, _⟩ := h.blk.creg h.len hc
  obtain ⟨co, fo⟩ := h.blk.cov h.len
  rw [hov] at co
  have i1 : (t.pc : Int) < (n : Int) := by omega
  have i2 : (a : Int) < 24 := by omega
  have i3 : (b : Int) < 24 := by omega
  have i4 : (c : Int) < 24 := by omega
  clear h hw hlc hop hov hcd
  have lad : (ad.add (t.pc * 5)).block < w.heap.size := World.block_lt_of_cell? w _ c1
  go_enter Tryd.func61, Tryd.ntmps61
  go_wp2
  go_region
  go_wp2
  refine wp_still_drew 21 (by kernel_rfl) (by kernel_rfl) ?_
  simp only [List.take_succ_cons, List.take_zero, List.drop_succ_cons, List.drop_zero]
  repeat still_step
  still_call (vm_quotient _ _ _ _)
  repeat still_step
  refine wpStill_nil ?_
  go_wp2
  all_goals
    by_cases hE : t.pc + 1 = n
    · have e1 : ((t.pc : Int) + 1 == (n : Int)) = true := by simp; omega
      go_wp2
      go_region
      all_goals
        go_wp2
        go_end0
        rw [HV true (by simp [hE])]
        refine ⟨rfl, ?_⟩
        iterate 3 (refine SP.drew ?_)
        exact SP.reg H.out HW.out ha _ _ _
    · have e1 : ((t.pc : Int) + 1 == (n : Int)) = false := by simp; omega
      go_wp2
      go_region
      all_goals
        go_wp2
        go_end0
        rw [HV false (by simp [hE])]
        refine ⟨rfl, ?_⟩
        iterate 3 (refine SP.drew ?_)
        exact SP.reg H.out HW.out ha _ _ _
set_option maxHeartbeats 2000000 in
set_option maxRecDepth 100000 in
theorem vs_rem (B g n cn a b c : Nat) (d : Int) (w : World) (A : Option Addr) (tv wv : Value) (t : Th) (ws : List Int) (code : List Op5) (ha : a < 24) (hb : b < 24) (hc : c < 24) (hn : n ≤ 200) (hop : code[t.pc]? = some ⟨7, (a : Int), (b : Int), (c : Int), d⟩) (hov : t.over = false)
    (hcd : Sl w 5 A n (code.flatMap gO)) (h : TH B w g (.slice A n cn) t tv) (hw : WS B w wv ws) :
    Calls Tryd.prog 61 #[.pointer (some ⟨g, 0, none⟩), wv] w fun e w' => e = .returned (.tuple #[]) ∧ SP B w w' g (.slice A n cn) tv wv (vstep code t ws).1 (vstep code t ws).2 := by
  have hlc : code.length = n := by have := hcd.1; rw [flatMap_len gO 5 (fun _ => rfl)] at this; omega
  have hpc : t.pc < n := by rw [← hlc]; exact (List.getElem?_eq_some_iff.1 hop).1
  obtain ⟨ad, o, rfl, ho, c1, c2, c3, c4, c5⟩ := hcd.opAt hpc
  rw [hop] at ho; injection ho with ho; subst ho
  simp only at c1 c2 c3 c4 c5
  have H := hid h; have HW := hid hw
  have l1 := h.blk.lt
  have HV := fun (ov : Bool) (hE : decide (t.pc + 1 = n) = ov) => vstep_reg (r' := vset t.regs a (vquo (vget t.regs b) (vget t.regs c) true)) (ws := ws) hop hov hlc rfl hE
  obtain ⟨c0, f0⟩ := h.blk.c0
  obtain ⟨cp, fp⟩ := h.blk.cpc h.len
  obtain ⟨cra, fra⟩ := h.blk.creg h.len ha
  obtain ⟨crb, _⟩ := h.blk.creg h.len hb
  obtain ⟨crc, _⟩ := h.blk.creg h.len hc
  obtain ⟨co, fo⟩ := h.blk.cov h.len
  rw [hov] at co
  have i1 : (t.pc : Int) < (n : Int) := by omega
  have i2 : (a : Int) < 24 := by omega
  have i3 : (b : Int) < 24 := by omega
  have i4 : (c : Int) < 24 := by omega
  clear h hw hlc hop hov hcd
  have lad : (ad.add (t.pc * 5)).block < w.heap.size := World.block_lt_of_cell? w _ c1
  go_enter Tryd.func61, Tryd.ntmps61
  go_wp2
  go_region
  go_wp2
  refine wp_still_drew 21 (by kernel_rfl) (by kernel_rfl) ?_
  simp only [List.take_succ_cons, List.take_zero, List.drop_succ_cons, List.drop_zero]
  repeat still_step
  still_call (vm_quotient _ _ _ _)
  repeat still_step
  refine wpStill_nil ?_
  go_wp2
  all_goals
    by_cases hE : t.pc + 1 = n
    · have e1 : ((t.pc : Int) + 1 == (n : Int)) = true := by simp; omega
      go_wp2
      go_region
      all_goals
        go_wp2
        go_end0
        rw [HV true (by simp [hE])]
        refine ⟨rfl, ?_⟩
        iterate 3 (refine SP.drew ?_)
        exact SP.reg H.out HW.out ha _ _ _
    · have e1 : ((t.pc : Int) + 1 == (n : Int)) = false := by simp; omega
      go_wp2
      go_region
      all_goals
        go_wp2
        go_end0
        rw [HV false (by simp [hE])]
        refine ⟨rfl, ?_⟩
        iterate 3 (refine SP.drew ?_)
        exact SP.reg H.out HW.out ha _ _ _
set_option maxHeartbeats 2000000 in
set_option maxRecDepth 100000 in
theorem vs_same (B g n cn a b c : Nat) (d : Int) (w : World) (A : Option Addr) (tv wv : Value) (t : Th) (ws : List Int) (code : List Op5) (ha : a < 24) (hb : b < 24) (hc : c < 24) (hn : n ≤ 200) (hop : code[t.pc]? = some ⟨8, (a : Int), (b : Int), (c : Int), d⟩) (hov : t.over = false)
    (hcd : Sl w 5 A n (code.flatMap gO)) (h : TH B w g (.slice A n cn) t tv) (hw : WS B w wv ws) :
    Calls Tryd.prog 61 #[.pointer (some ⟨g, 0, none⟩), wv] w fun e w' => e = .returned (.tuple #[]) ∧ SP B w w' g (.slice A n cn) tv wv (vstep code t ws).1 (vstep code t ws).2 := by
  have hlc : code.length = n := by have := hcd.1; rw [flatMap_len gO 5 (fun _ => rfl)] at this; omega
  have hpc : t.pc < n := by rw [← hlc]; exact (List.getElem?_eq_some_iff.1 hop).1
  obtain ⟨ad, o, rfl, ho, c1, c2, c3, c4, c5⟩ := hcd.opAt hpc
  rw [hop] at ho; injection ho with ho; subst ho
  simp only at c1 c2 c3 c4 c5
  have H := hid h; have HW := hid hw
  have l1 := h.blk.lt
  have HV := fun (ov : Bool) (hE : decide (t.pc + 1 = n) = ov) => vstep_reg (r' := vset t.regs a (vflag (decide (vget t.regs b = vget t.regs c)))) (ws := ws) hop hov hlc rfl hE
  obtain ⟨c0, f0⟩ := h.blk.c0
  obtain ⟨cp, fp⟩ := h.blk.cpc h.len
  obtain ⟨cra, fra⟩ := h.blk.creg h.len ha
  obtain ⟨crb, _⟩ := h.blk.creg h.len hb
  obtain ⟨crc, _⟩ := h.blk.creg h.len hc
  obtain ⟨co, fo⟩ := h.blk.cov h.len
  rw [hov] at co
  have i1 : (t.pc : Int) < (n : Int) := by omega
  have i2 : (a : Int) < 24 := by omega
  have i3 : (b : Int) < 24 := by omega
  have i4 : (c : Int) < 24 := by omega
  clear h hw hlc hop hov hcd
  have lad : (ad.add (t.pc * 5)).block < w.heap.size := World.block_lt_of_cell? w _ c1
  go_enter Tryd.func61, Tryd.ntmps61
  go_wp2
  go_region
  go_wp2
  refine wp_still_drew 19 (by kernel_rfl) (by kernel_rfl) ?_
  simp only [List.take_succ_cons, List.take_zero, List.drop_succ_cons, List.drop_zero]
  repeat still_step
  still_call (vm_flag _ _)
  repeat still_step
  refine wpStill_nil ?_
  go_wp2
  all_goals
    by_cases hE : t.pc + 1 = n
    · have e1 : ((t.pc : Int) + 1 == (n : Int)) = true := by simp; omega
      go_wp2
      go_region
      all_goals
        go_wp2
        go_end0
        rw [HV true (by simp [hE])]
        refine ⟨rfl, ?_⟩
        iterate 3 (refine SP.drew ?_)
        exact SP.reg H.out HW.out ha _ _ _
    · have e1 : ((t.pc : Int) + 1 == (n : Int)) = false := by simp; omega
      go_wp2
      go_region
      all_goals
        go_wp2
        go_end0
        rw [HV false (by simp [hE])]
        refine ⟨rfl, ?_⟩
        iterate 3 (refine SP.drew ?_)
        exact SP.reg H.out HW.out ha _ _ _
set_option maxHeartbeats 2000000 in
set_option maxRecDepth 100000 in
theorem vs_less (B g n cn a b c : Nat) (d : Int) (w : World) (A : Option Addr) (tv wv : Value) (t : Th) (ws : List Int) (code : List Op5) (ha : a < 24) (hb : b < 24) (hc : c < 24) (hn : n ≤ 200) (hop : code[t.pc]? = some ⟨9, (a : Int), (b : Int), (c : Int), d⟩) (hov : t.over = false)
    (hcd : Sl w 5 A n (code.flatMap gO)) (h : TH B w g (.slice A n cn) t tv) (hw : WS B w wv ws) :
    Calls Tryd.prog 61 #[.pointer (some ⟨g, 0, none⟩), wv] w fun e w' => e = .returned (.tuple #[]) ∧ SP B w w' g (.slice A n cn) tv wv (vstep code t ws).1 (vstep code t ws).2 := by
  have hlc : code.length = n := by have := hcd.1; rw [flatMap_len gO 5 (fun _ => rfl)] at this; omega
  have hpc : t.pc < n := by rw [← hlc]; exact (List.getElem?_eq_some_iff.1 hop).1
  obtain ⟨ad, o, rfl, ho, c1, c2, c3, c4, c5⟩ := hcd.opAt hpc
  rw [hop] at ho; injection ho with ho; subst ho
  simp only at c1 c2 c3 c4 c5
  have H := hid h; have HW := hid hw
  have l1 := h.blk.lt
  have HV := fun (ov : Bool) (hE : decide (t.pc + 1 = n) = ov) => vstep_reg (r' := vset t.regs a (vflag (decide (vget t.regs b < vget t.regs c)))) (ws := ws) hop hov hlc rfl hE
  obtain ⟨c0, f0⟩ := h.blk.c0
  obtain ⟨cp, fp⟩ := h.blk.cpc h.len
  obtain ⟨cra, fra⟩ := h.blk.creg h.len ha
  obtain ⟨crb, _⟩ := h.blk.creg h.len hb
  obtain ⟨crc, _⟩ := h.blk.creg h.len hc
  obtain ⟨co, fo⟩ := h.blk.cov h.len
  rw [hov] at co
  have i1 : (t.pc : Int) < (n : Int) := by omega
  have i2 : (a : Int) < 24 := by omega
  have i3 : (b : Int) < 24 := by omega
  have i4 : (c : Int) < 24 := by omega
  clear h hw hlc hop hov hcd
  have lad : (ad.add (t.pc * 5)).block < w.heap.size := World.block_lt_of_cell? w _ c1
  go_enter Tryd.func61, Tryd.ntmps61
  go_wp2
  go_region
  go_wp2
  refine wp_still_drew 19 (by kernel_rfl) (by kernel_rfl) ?_
  simp only [List.take_succ_cons, List.take_zero, List.drop_succ_cons, List.drop_zero]
  repeat still_step
  still_call (vm_flag _ _)
  repeat still_step
  refine wpStill_nil ?_
  go_wp2
  all_goals
    by_cases hE : t.pc + 1 = n
    · have e1 : ((t.pc : Int) + 1 == (n : Int)) = true := by simp; omega
      go_wp2
      go_region
      all_goals
        go_wp2
        go_end0
        rw [HV true (by simp [hE])]
        refine ⟨rfl, ?_⟩
        iterate 3 (refine SP.drew ?_)
        exact SP.reg H.out HW.out ha _ _ _
    · have e1 : ((t.pc : Int) + 1 == (n : Int)) = false := by simp; omega
      go_wp2
      go_region
      all_goals
        go_wp2
        go_end0
        rw [HV false (by simp [hE])]
        refine ⟨rfl, ?_⟩
        iterate 3 (refine SP.drew ?_)
        exact SP.reg H.out HW.out ha _ _ _
end Go.Proofs.YtabmkjokeeakdaaDoor
