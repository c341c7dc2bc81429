/-
  What the walks of ring's laws share. (Merged by mergeR.py.)
-/
import Derived.Test.YtiinnkdhccgelaaDoorODef
import Derived.Test.YtiinnkdhccgelaaDoorSched
import Derived.Test.YtiinnkdhccgelaaDoorDsAt
import Derived.Deep.RegionHeld
import Derived.Test.YtiinnkdhccgelaaDoorRMach2
import Derived.Test.YtiinnkdhccgelaaDoorRAll
namespace Go.Proofs.YtiinnkdhccgelaaDoor
open Go.RowKit
set_option linter.unusedVariables false

abbrev gBo : Bool → List Value := fun b => [.bool b]
theorem gBo_one (x : Bool) : ∀ u ∈ gBo x, u.oneCell' = true := by intro u hu; simp at hu; subst hu; rfl
theorem elmBo : Elm Tryd.prog 49 4 1 1 := elm_of (z := .bool false) Tryd.underlying49 (by kernel_rfl) rfl (by decide)
theorem cells3 {w w' : World} {p q r : Addr} {a b c : Value} (h : Below w.heap.size w w') (hp : w.cell? p = some a) (hq : w.cell? q = some b) (hr : w.cell? r = some c) : w'.cell? p = some a ∧ w'.cell? q = some b ∧ w'.cell? r = some c := ⟨cell_below h hp, cell_below h hq, cell_below h hr⟩
/-- the code of a call, in memory -/
theorem o_codeAt {B : Nat} {w : World} {nc nt : Nat} {Cb T : Nat} {cv tv : Nat → Value} {ks : Nat → List Op5} {th : Nat → List VCall} {av : Nat → List SV} (h : MN B w nc nt Cb T cv ks tv th av) {t c : Nat} {x : VCall} (ht : t < nt) (hc : (th t)[c]? = some x) :
    ∃ (bt ct : Nat) (ax : SV), w.cell? ⟨T, t, none⟩ = some (.slice (some ⟨bt, 0, none⟩) (th t).length ct) ∧ w.cell? ⟨bt, c * 2, none⟩ = some (.int .i64 (x.code : Int)) ∧ w.cell? ⟨bt, c * 2 + 1, none⟩ = some ax.v ∧ w.ownsRow B 3 1 ax.v x.args.length (x.args.flatMap gI) := by
  obtain ⟨r1, r2, r3⟩ := h.rows t ht
  obtain ⟨A, c', e, _⟩ := own_form r2
  have hcl := (List.getElem?_eq_some_iff.1 hc).1
  rw [e] at r2
  obtain ⟨b, c'', e2, _, hcell⟩ := own_at r2 (by omega)
  injection e2 with e2 e3 e4
  subst e2
  have hl : c < (av t).length := by rw [r1]; exact hcl
  have hav : (av t)[c]? = some (av t)[c] := List.getElem?_eq_getElem hl
  have hz : ((th t).zip (av t))[c]? = some (x, (av t)[c]) := by
    rw [List.getElem?_zip_eq_some]
    exact ⟨hc, hav⟩
  refine ⟨b, c', (av t)[c], by rw [h.tb.cell t, arrN_at tv ht, e], ?_, ?_, r3 c x _ hc hav⟩
  · have h := flatMap_at gS 2 (fun _ => rfl) _ c 0 _ hz (by decide)
    rw [Nat.add_zero] at h
    exact hcell (c * 2) _ (by rw [h]; rfl)
  · have h := flatMap_at gS 2 (fun _ => rfl) _ c 1 _ hz (by decide)
    exact hcell (c * 2 + 1) _ (by rw [h]; rfl)
end Go.Proofs.YtiinnkdhccgelaaDoor
namespace Go.Proofs.YtiinnkdhccgelaaDoor
open Go.RowKit
set_option linter.unusedVariables false

theorem filter_next {P : Dg → Bool} {ds : List Dg} {k : Nat} {d : Dg} (h : ds[k]? = some d) : ((ds.take (k + 1)).filter P).length = ((ds.take k).filter P).length + (if P d then 1 else 0) := by
  rw [List.take_add_one, h, List.filter_append, List.length_append]
  cases hp : P d <;> simp [hp]
/-- the numbers that RingFull counts, as far as it has looked -/
structure Cn3 (ds : List Dg) (d : Dg) (e j q1 q2 q3 : Nat) : Prop where
  sure : q1 = ((ds.take j).filter (sF d)).length
  may : q2 = ((ds.take j).filter (mF d e)).length
  bef : q3 = ((ds.take j).filter (bF d)).length
  b1 : q1 ≤ j
  b2 : q2 ≤ j
  b3 : q3 ≤ j
section
variable {ds : List Dg} {d y : Dg} {e j q1 q2 q3 : Nat}
theorem Cn3.start : Cn3 ds d e 0 0 0 0 := ⟨rfl, rfl, rfl, Nat.le_refl _, Nat.le_refl _, Nat.le_refl _⟩
theorem Cn3.n0 (h : Cn3 ds d e j q1 q2 q3) (hy : ds[j]? = some y) (h1 : sF d y = false) (h2 : mF d e y = false) (h3 : bF d y = false) : Cn3 ds d e (j + 1) q1 q2 q3 :=
  ⟨by rw [filter_next hy, h1, h.sure]; rfl, by rw [filter_next hy, h2, h.may]; rfl, by rw [filter_next hy, h3, h.bef]; rfl, Nat.le_succ_of_le h.b1, Nat.le_succ_of_le h.b2, Nat.le_succ_of_le h.b3⟩
theorem Cn3.nB (h : Cn3 ds d e j q1 q2 q3) (hy : ds[j]? = some y) (h1 : sF d y = false) (h2 : mF d e y = false) (h3 : bF d y = true) : Cn3 ds d e (j + 1) q1 q2 (q3 + 1) :=
  ⟨by rw [filter_next hy, h1, h.sure]; rfl, by rw [filter_next hy, h2, h.may]; rfl, by rw [filter_next hy, h3, h.bef]; rfl, Nat.le_succ_of_le h.b1, Nat.le_succ_of_le h.b2, Nat.succ_le_succ h.b3⟩
theorem Cn3.nM (h : Cn3 ds d e j q1 q2 q3) (hy : ds[j]? = some y) (h1 : sF d y = false) (h2 : mF d e y = true) (h3 : bF d y = false) : Cn3 ds d e (j + 1) q1 (q2 + 1) q3 :=
  ⟨by rw [filter_next hy, h1, h.sure]; rfl, by rw [filter_next hy, h2, h.may]; rfl, by rw [filter_next hy, h3, h.bef]; rfl, Nat.le_succ_of_le h.b1, Nat.succ_le_succ h.b2, Nat.le_succ_of_le h.b3⟩
theorem Cn3.nMS (h : Cn3 ds d e j q1 q2 q3) (hy : ds[j]? = some y) (h1 : sF d y = true) (h2 : mF d e y = true) (h3 : bF d y = false) : Cn3 ds d e (j + 1) (q1 + 1) (q2 + 1) q3 :=
  ⟨by rw [filter_next hy, h1, h.sure]; rfl, by rw [filter_next hy, h2, h.may]; rfl, by rw [filter_next hy, h3, h.bef]; rfl, Nat.succ_le_succ h.b1, Nat.succ_le_succ h.b2, Nat.le_succ_of_le h.b3⟩
theorem Cn3.nS (h : Cn3 ds d e j q1 q2 q3) (hy : ds[j]? = some y) (h1 : sF d y = true) (h2 : mF d e y = false) (h3 : bF d y = false) : Cn3 ds d e (j + 1) (q1 + 1) q2 q3 :=
  ⟨by rw [filter_next hy, h1, h.sure]; rfl, by rw [filter_next hy, h2, h.may]; rfl, by rw [filter_next hy, h3, h.bef]; rfl, Nat.succ_le_succ h.b1, Nat.le_succ_of_le h.b2, Nat.le_succ_of_le h.b3⟩
def aheadB (d d' : Dg) : Bool := match d.e with | none => false | some e => decide (e < d'.b)
theorem Cn3.l1 (h : Cn3 ds d e j q1 q2 q3) (hy : ds[j]? = some y) (ht : y.t = d.t) (he : y.e = none) : Cn3 ds d e (j + 1) q1 q2 q3 :=
  h.n0 hy (by simp [sF, ht]) (by simp [mF, ht]) (by simp [bF, gdT, he])
theorem Cn3.l2 (h : Cn3 ds d e j q1 q2 q3) (hy : ds[j]? = some y) (ht : ¬ y.t = d.t) (he : y.e = none) (hb : y.b < e) : Cn3 ds d e (j + 1) q1 (q2 + 1) q3 :=
  h.nM hy (by simp [sF, gdT, he]) (by simp [mF, ht, he, hb]) (by simp [bF, ht])
theorem Cn3.l3 (h : Cn3 ds d e j q1 q2 q3) (hy : ds[j]? = some y) (ht : ¬ y.t = d.t) (he : y.e = none) (hb : ¬ y.b < e) : Cn3 ds d e (j + 1) q1 q2 q3 :=
  h.n0 hy (by simp [sF, gdT, he]) (by simp [mF, hb]) (by simp [bF, ht])
theorem Cn3.l4 (h : Cn3 ds d e j q1 q2 q3) (hy : ds[j]? = some y) {e2 : Nat} (he : y.e = some e2) (hg : gdT y.t y = false) : Cn3 ds d e (j + 1) q1 q2 q3 :=
  h.n0 hy (by simp [sF, hg]) (by simp [mF, hg, he]) (by simp [bF, hg])
theorem Cn3.l5 (h : Cn3 ds d e j q1 q2 q3) (hy : ds[j]? = some y) (ht : y.t = d.t) (hg : gdT y.t y = true) (hc : y.c < d.c) : Cn3 ds d e (j + 1) q1 q2 (q3 + 1) :=
  h.nB hy (by simp [sF, ht]) (by simp [mF, ht]) (by rw [ht] at hg; simp [bF, hg, ht, hc])
theorem Cn3.l6 (h : Cn3 ds d e j q1 q2 q3) (hy : ds[j]? = some y) (ht : y.t = d.t) (hc : ¬ y.c < d.c) : Cn3 ds d e (j + 1) q1 q2 q3 :=
  h.n0 hy (by simp [sF, ht]) (by simp [mF, ht]) (by simp [bF, hc])
theorem Cn3.l7 (h : Cn3 ds d e j q1 q2 q3) (hy : ds[j]? = some y) (ht : ¬ y.t = d.t) {e2 : Nat} (he : y.e = some e2) (hg : gdT y.t y = true) (hb : y.b < e) (hq : e2 < d.b) : Cn3 ds d e (j + 1) (q1 + 1) (q2 + 1) q3 :=
  h.nMS hy (by simp [sF, hg, ht, he, hq]) (by simp [mF, ht, hg, hb]) (by simp [bF, ht])
theorem Cn3.l8 (h : Cn3 ds d e j q1 q2 q3) (hy : ds[j]? = some y) (ht : ¬ y.t = d.t) {e2 : Nat} (he : y.e = some e2) (hg : gdT y.t y = true) (hb : y.b < e) (hq : ¬ e2 < d.b) : Cn3 ds d e (j + 1) q1 (q2 + 1) q3 :=
  h.nM hy (by simp [sF, he, hq]) (by simp [mF, ht, hg, hb]) (by simp [bF, ht])
theorem Cn3.l9 (h : Cn3 ds d e j q1 q2 q3) (hy : ds[j]? = some y) (ht : ¬ y.t = d.t) {e2 : Nat} (he : y.e = some e2) (hg : gdT y.t y = true) (hb : ¬ y.b < e) (hq : e2 < d.b) : Cn3 ds d e (j + 1) (q1 + 1) q2 q3 :=
  h.nS hy (by simp [sF, hg, ht, he, hq]) (by simp [mF, hb]) (by simp [bF, ht])
theorem Cn3.l10 (h : Cn3 ds d e j q1 q2 q3) (hy : ds[j]? = some y) (ht : ¬ y.t = d.t) {e2 : Nat} (he : y.e = some e2) (hb : ¬ y.b < e) (hq : ¬ e2 < d.b) : Cn3 ds d e (j + 1) q1 q2 q3 :=
  h.n0 hy (by simp [sF, he, hq]) (by simp [mF, hb]) (by simp [bF, ht])
theorem gd00 {y : Dg} {e2 : Nat} (ht : y.t = 0) (he : y.e = some e2) {u : Int} (htd : y.told = [u]) (hu : u ≠ 1) : gdT y.t y = false := by simp [gdT, ht, he, htd, hu]
theorem gd01 {y : Dg} {e2 : Nat} (ht : y.t = 0) (he : y.e = some e2) (htd : y.told = [1]) : gdT y.t y = true := by simp [gdT, ht, he, htd]
theorem gd10 {y : Dg} {e2 : Nat} (ht : y.t = 1) (he : y.e = some e2) (htd : y.told = [-1]) : gdT y.t y = false := by simp [gdT, ht, he, htd]
theorem gd11 {y : Dg} {e2 : Nat} (ht : y.t = 1) (he : y.e = some e2) {u : Int} (htd : y.told = [u]) (hu : u ≠ -1) : gdT y.t y = true := by simp [gdT, ht, he, htd, hu]
theorem Cn3.m1 (h : Cn3 ds d e j q1 q2 q3) (hy : ds[j]? = some y) (ht : y.t = d.t) (hg : gdT y.t y = false) : Cn3 ds d e (j + 1) q1 q2 q3 :=
  h.n0 hy (by simp [sF, ht]) (by simp [mF, ht]) (by rw [ht] at hg; simp [bF, ht, hg])
theorem gdn {y : Dg} (he : y.e = none) : gdT y.t y = false := by simp [gdT, he]
theorem gd_some {y : Dg} (h : gdT y.t y = true) : ∃ e2, y.e = some e2 := by
  cases he : y.e with
  | none => rw [gdn he] at h; cases h
  | some e2 => exact ⟨e2, rfl⟩
theorem ah1 {y d : Dg} {e2 : Nat} (he : y.e = some e2) (hq : e2 < d.b) : aheadB y d = true := by simp [aheadB, he, hq]
theorem ah0 {y d : Dg} {e2 : Nat} (he : y.e = some e2) (hq : ¬ e2 < d.b) : aheadB y d = false := by simp [aheadB, he, hq]
end
abbrev dgV (d : Dg) (v : Value) : Value := .agg #[.int .i64 (d.b : Int), .int .i64 (eI d.e), .int .i64 (d.t : Int), .int .i64 (d.c : Int), v]
set_option maxHeartbeats 1000000 in
theorem ahead_of (d d' : Dg) (v v' : Value) (w : World) : Calls Tryd.prog 30 #[dgV d v, dgV d' v'] w fun e w' => e = .returned (.bool (aheadB d d')) ∧ Below w.heap.size w w' := by
  obtain ⟨X, hX⟩ : ∃ X, w.heap.size = X := ⟨_, rfl⟩
  obtain ⟨Y, hY⟩ : ∃ Y, X + 1 = Y := ⟨_, rfl⟩
  have BN := hid (bnew (bnew (bnil w) (.cells #[.int .i64 (d.b : Int), .int .i64 (eI d.e), .int .i64 (d.t : Int), .int .i64 (d.c : Int), v] 46)) (.cells #[.int .i64 (d'.b : Int), .int .i64 (eI d'.e), .int .i64 (d'.t : Int), .int .i64 (d'.c : Int), v'] 46))
  have HXB := hid ((blkN w 46 #[.int .i64 (d.b : Int), .int .i64 (eI d.e), .int .i64 (d.t : Int), .int .i64 (d.c : Int), v] X hX).alloc (.cells #[.int .i64 (d'.b : Int), .int .i64 (eI d'.e), .int .i64 (d'.t : Int), .int .i64 (d'.c : Int), v'] 46))
  have HYB := hid (blkN (w.alloc (.cells #[.int .i64 (d.b : Int), .int .i64 (eI d.e), .int .i64 (d.t : Int), .int .i64 (d.c : Int), v] 46)) 46 #[.int .i64 (d'.b : Int), .int .i64 (eI d'.e), .int .i64 (d'.t : Int), .int .i64 (d'.c : Int), v'] Y (by rw [World.size_alloc, hX, hY]))
  go_enter Tryd.func30, Tryd.ntmps30
  go_upto_region 1 with fail
  generalize World.alloc (World.alloc w _) _ = w2 at *
  have x1 : w2.cell? ⟨X, 1, none⟩ = some (.int .i64 (eI d.e)) := HXB.out.cell 1
  have y0 : w2.cell? ⟨Y, 0, none⟩ = some (.int .i64 (d'.b : Int)) := HYB.out.cell 0
  try rw [hX]
  try rw [hY]
  clear hX hY HXB HYB
  cases he : d.e with
  | none =>
    rw [he] at x1
    have x1 : w2.cell? ⟨X, 1, none⟩ = some (.int .i64 (-1)) := x1
    have hr : aheadB d d' = false := by unfold aheadB; rw [he]
    have HRR := hid hr
    clear he hr
    go_wp2_with fail
    go_ret
    exact ⟨(by rw [HRR.out]; rfl), BN.out⟩
  | some e =>
    rw [he] at x1
    have x1 : w2.cell? ⟨X, 1, none⟩ = some (.int .i64 (e : Int)) := x1
    have en : ((e : Int) != -1) = true := bneT (by omega)
    have en2 : ((e : Int) == -1) = false := beqF (by omega)
    rcases Nat.lt_or_ge e d'.b with h | h
    · have hr : aheadB d d' = true := by unfold aheadB; rw [he]; exact decide_eq_true h
      have hd : decide ((e : Int) < (d'.b : Int)) = true := decide_eq_true (by omega)
      have HRR := hid hr
      clear he hr
      go_wp2_with fail
      go_ret
      exact ⟨(by rw [HRR.out]; exact congrArg (fun b => Ending.returned (.bool b)) hd), BN.out⟩
    · have hr : aheadB d d' = false := by unfold aheadB; rw [he]; exact decide_eq_false (by omega)
      have hd : decide ((e : Int) < (d'.b : Int)) = false := decide_eq_false (by omega)
      have HRR := hid hr
      clear he hr
      go_wp2_with fail
      go_ret
      exact ⟨(by rw [HRR.out]; exact congrArg (fun b => Ending.returned (.bool b)) hd), BN.out⟩
end Go.Proofs.YtiinnkdhccgelaaDoor
