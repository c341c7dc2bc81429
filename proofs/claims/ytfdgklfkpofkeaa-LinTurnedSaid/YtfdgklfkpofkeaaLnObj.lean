/-
  The objects of lin (a register, a counter, a queue, a stack) in memory; what they have behind an act, and whether two are the same: their walks.
-/
import Derived.Test.YtfdgklfkpofkeaaNum
import Derived.Test.YtfdgklfkpofkeaaRow
import Derived.Test.YtfdgklfkpofkeaaLnMath
import Derived.Deep.QuietTactic
import Derived.Deep.RegionLaw
import Derived.Deep.CutBlock
import Derived.Deep.DeepCutAuto
namespace Go.Proofs.Ytfdgklfkpofkeaa
open Go.RowKit
set_option linter.unusedVariables false

/-- a slice of numbers that lies in a row of numbers -/
def ISl (w : World) (A : Option Addr) (n : Nat) (l : List Int) : Prop :=
  l.length = n ∧ (0 < n → ∃ g off cs, A = some ⟨g, off, none⟩ ∧ Blk w g 3 cs ∧ ∀ j x, l[j]? = some x → cs[off + j]? = some (.int .i64 x))
theorem ad_mk (g off j : Nat) : (⟨g, off, none⟩ : Addr).add j = ⟨g, off + j, none⟩ := by unfold Addr.add; split <;> simp_all
theorem ISl.sl {w : World} {A : Option Addr} {n : Nat} {l : List Int} (h : ISl w A n l) : Sl w 1 A n (ints l) := by
  refine ⟨by rw [ints_length, h.1, Nat.mul_one], fun hn => ?_⟩
  obtain ⟨g, off, cs, rfl, hb, hc⟩ := h.2 hn
  refine ⟨_, rfl, fun j u hu => ?_⟩
  have hj : j < l.length := by have := (List.getElem?_eq_some_iff.1 hu).1; rwa [ints_length] at this
  have h1 := ints_at (l := l) (k := j) (List.getElem?_eq_getElem hj)
  rw [h1] at hu; injection hu with hu; subst hu
  rw [ad_mk, hb.cell]
  exact hc j _ (List.getElem?_eq_getElem hj)
/-- numbers' rows stay -/
structure Kp (B : Nat) (w w' : World) : Prop where
  bel : Below B w w'
  row : ∀ g cs, Blk w g 3 cs → Blk w' g 3 cs
theorem Kp.refl (B : Nat) (w : World) : Kp B w w := ⟨Below.refl B w, fun _ _ h => h⟩
theorem Kp.trans {B : Nat} {a b c : World} (h : Kp B a b) (k : Kp B b c) : Kp B a c := ⟨h.bel.trans k.bel, fun g cs hg => k.row g cs (h.row g cs hg)⟩
theorem Kp.of_below {B : Nat} {w w' : World} (h : Below w.heap.size w w') (hB : B ≤ w.heap.size) : Kp B w w' := ⟨h.mono hB, fun g cs hg => hg.below' h⟩
theorem Kp.of_grown {B : Nat} {w w' : World} {row : Option Nat} (h : w.grownBy w' row) (hw : B ≤ w.heap.size) (hB : ∀ k, row = some k → B ≤ k) (hr : ∀ k cs, row = some k → ¬ Blk w k 3 cs) : Kp B w w' :=
  ⟨⟨h.os, h.tape, h.output, h.size, fun k hk => h.block k (by omega) fun e => by have := hB k e.symm; omega⟩, fun g cs hg => (h.block g hg.lt fun e => hr g cs e.symm hg).trans hg⟩
theorem ISl.keep {w w' : World} {A : Option Addr} {n : Nat} {l : List Int} (h : ISl w A n l) (hk : ∀ g cs, Blk w g 3 cs → Blk w' g 3 cs) : ISl w' A n l := by
  refine ⟨h.1, fun hn => ?_⟩
  obtain ⟨g, off, cs, e, hb, hc⟩ := h.2 hn
  exact ⟨g, off, cs, e, hk g cs hb, hc⟩
theorem ISl.below {w w' : World} {A : Option Addr} {n : Nat} {l : List Int} (h : ISl w A n l) (hb : Below w.heap.size w w') : ISl w' A n l := h.keep fun g cs hg => hg.below' hb
theorem ISl.nil (w : World) (A : Option Addr) : ISl w A 0 [] := ⟨rfl, fun h => absurd h (by omega)⟩
theorem ISl.own {w0 w : World} {A : Option Addr} {n c : Nat} {l : List Int} (h : Ow w0 w 3 1 gI (.slice A n c) l) (hn : l.length = n) : ISl w A n l := by
  refine ⟨hn, fun h0 => ?_⟩
  obtain ⟨b, cur, rfl, _, _, hb, _, _, ht⟩ := h.row (by omega)
  refine ⟨b, 0, cur, rfl, hb, fun j x hj => ?_⟩
  have h1 := ints_at hj
  have hl : j < n := by have := (List.getElem?_eq_some_iff.1 hj).1; omega
  rw [ints, ← ht, List.getElem?_take, if_pos hl] at h1
  rw [Nat.zero_add, ← Array.getElem?_toList]; exact h1
theorem ISl.tail {w : World} {A : Option Addr} {n cap : Nat} {x : Int} {l : List Int} (h : ISl w A (n + 1) (x :: l)) (hc : n + 1 ≤ cap) : ISl w (if cap = 1 then A else A.map (·.add 1)) n l := by
  refine ⟨by have := h.1; simpa using this, fun hn => ?_⟩
  obtain ⟨g, off, cs, rfl, hb, hcs⟩ := h.2 (by omega)
  rw [if_neg (by omega)]
  refine ⟨g, off + 1, cs, congrArg some (ad_mk g off 1), hb, fun j y hj => ?_⟩
  rw [show off + 1 + j = off + (j + 1) by omega]
  exact hcs (j + 1) y (by simpa using hj)
theorem ISl.front {w : World} {A : Option Addr} {n : Nat} {l : List Int} (h : ISl w A (n + 1) l) : ISl w A n l.dropLast := by
  refine ⟨by have := h.1; simp; omega, fun hn => ?_⟩
  obtain ⟨g, off, cs, e, hb, hcs⟩ := h.2 (by omega)
  refine ⟨g, off, cs, e, hb, fun j y hj => hcs j y ?_⟩
  rw [List.dropLast_eq_take, List.getElem?_take] at hj
  split at hj
  · exact hj
  · cases hj

/-- an act as it is handed over -/
abbrev actV (a : LA) : Value := .agg #[.int .i64 a.b, .int .i64 a.e, .bool a.put, .int .i64 a.val, .int .i64 a.by_]
/-- an object in memory -/
def ObjAt (w : World) (v : Value) : LO → Prop
  | .reg x => v = .iface 66 (.int .i64 x)
  | .ctr x => v = .iface 67 (.int .i64 x)
  | .heap last l => ∃ A n c, v = .iface 69 (.agg #[.bool last, .slice A n c]) ∧ n ≤ c ∧ c ≤ maxLen ∧ ISl w A n l
def LO.size : LO → Nat
  | .heap _ l => l.length
  | _ => 0
theorem next_size (o : LO) (a : LA) : (o.next a).1.size ≤ o.size + 1 := by
  cases o with
  | reg v => by_cases h : a.put = true <;> simp [LO.next, h, LO.size]
  | ctr c => simp [LO.next, LO.size]
  | heap last l =>
    by_cases h : a.put = true
    · simp [LO.next, h, LO.size]
    · by_cases hl : l = []
      · simp [LO.next, h, LO.size, hl]
      · cases last <;> simp [LO.next, h, LO.size, hl] <;> omega
theorem ObjAt.keep {w w' : World} {v : Value} {o : LO} (h : ObjAt w v o) (hk : ∀ g cs, Blk w g 3 cs → Blk w' g 3 cs) : ObjAt w' v o := by
  cases o with
  | reg x => exact h
  | ctr x => exact h
  | heap last l => obtain ⟨A, n, c, h1, h2, h3, h4⟩ := h; exact ⟨A, n, c, h1, h2, h3, h4.keep hk⟩
theorem ObjAt.below {w w' : World} {v : Value} {o : LO} (h : ObjAt w v o) (hb : Below w.heap.size w w') : ObjAt w' v o := h.keep fun g cs hg => hg.below' hb
def NextPost (w : World) (o : LO) (a : LA) (e : Ending) (w' : World) : Prop := ∃ v', e = .returned (.tuple #[v', .int .i64 (o.next a).2]) ∧ ObjAt w' v' (o.next a).1 ∧ Below w.heap.size w w'

set_option maxHeartbeats 1000000 in
theorem reg_next (x : Int) (a : LA) (w : World) : Calls Try.prog 88 #[.int .i64 x, actV a] w fun e w' => NextPost w (.reg x) a e w' := by
  obtain ⟨ab, ae, ap, av, ay⟩ := a
  cases ap with
  | false =>
    show Calls _ _ _ w fun e w' => NextPost w (.reg x) ⟨ab, ae, false, av, ay⟩ e w'
    go_enter Try.func88, Try.ntmps88
    go_wp2_with fail
    refine bodyPost_ret (v := .tuple #[.iface 66 (.int .i64 x), .int .i64 x]) (by simp [results, Try.results88, go_sem]) rfl ?_
    exact ⟨_, rfl, rfl, bnew (bnil w) _⟩
  | true =>
    show Calls _ _ _ w fun e w' => NextPost w (.reg x) ⟨ab, ae, true, av, ay⟩ e w'
    go_enter Try.func88, Try.ntmps88
    go_wp2_with fail
    go_region
    all_goals
      go_wp2_with fail
      refine bodyPost_ret (v := .tuple #[.iface 66 (.int .i64 av), .int .i64 av]) (by simp [results, Try.results88, go_sem]) rfl ?_
      exact ⟨_, rfl, rfl, (bnew (bnil w) _).drew⟩
set_option maxHeartbeats 1000000 in
theorem ctr_next (x : Int) (a : LA) (w : World) : Calls Try.prog 90 #[.int .i64 x, actV a] w fun e w' => NextPost w (.ctr x) a e w' := by
  obtain ⟨ab, ae, ap, av, ay⟩ := a
  show Calls _ _ _ w fun e w' => NextPost w (.ctr x) ⟨ab, ae, ap, av, ay⟩ e w'
  go_enter Try.func90, Try.ntmps90
  go_wp2_with fail
  refine bodyPost_ret (v := .tuple #[.iface 67 (.int .i64 (wrap64 (x + ay))), .int .i64 x]) (by simp [results, Try.results90, go_sem]) rfl ?_
  exact ⟨_, rfl, rfl, bnew (bnil w) _⟩

theorem lclone (A : Option Addr) (n c : Nat) (l : List Int) (w : World) (hn : n ≤ 1000000) (h : Sl w 1 A n (ints l)) :
    Calls Try.prog 94 #[.slice A n c] w fun e w' => ∃ A2 c2, e = .returned (.slice A2 l.length c2) ∧ Ow w w' 3 1 gI (.slice A2 l.length c2) l := by
  have H := hid h; clear h
  have hl := H.out.leni
  have H0 := hid (⟨⟨rfl, .inr ⟨w.heap.size, 0, #[], rfl, Nat.le_refl _, Blk.new w _ _, Nat.le_refl _, by simp [maxLen], rfl, rfl⟩⟩, bnew (bnil w) _⟩ : Ow w (w.alloc (.cells #[] 3)) 3 1 gI (.slice (some ⟨w.heap.size, 0, none⟩) 0 0) [])
  have hnil := fun (w : World) => Go.Lib.run_eql_slice_nil (P := Try.prog) w 37 3 A n c 0 0 Try.underlying37
  rcases A with _ | ad
  · obtain rfl : n = 0 := by
      rcases Nat.eq_zero_or_pos n with h | h
      · exact h
      · obtain ⟨ad, e, _⟩ := H.out.2 h; simp at e
    obtain rfl : l = [] := List.eq_nil_of_length_eq_zero hl
    go_enter Try.func94, Try.ntmps94
    go_wp2
    go_ret
    exact ⟨_, _, rfl, Ow.nil _ _ _ _⟩
  · go_enter Try.func94, Try.ntmps94
    go_wp2_with (at_builtin; refine wpList_appY elmI gI_one rfl (.tmp 5) (.tmp 6) rfl (.slice (some ⟨w.heap.size, 0, none⟩) 0 0) [] rfl H0.out l l (hid (List.nil_append _)) rfl (H.out.below (bnew (bnil w) _)) hl (by simp only [maxLen]; omega) (by omega) ?_; intro A4 c4 w4 _ _ HN1 _ _)
    refine bodyPost_ret (v := .slice A4 l.length c4) (by simp [results, Try.results94, go_sem, hl]) rfl ?_
    exact ⟨A4, c4, rfl, HN1.out⟩

set_option maxHeartbeats 4000000 in
set_option maxRecDepth 100000 in
theorem heap_next (last : Bool) (l : List Int) (A : Option Addr) (n c : Nat) (a : LA) (w : World) (hn : n ≤ c) (hc : c ≤ maxLen) (hs : n ≤ 100) (h : ISl w A n l) :
    Calls Try.prog 92 #[.agg #[.bool last, .slice A n c], actV a] w fun e w' => NextPost w (.heap last l) a e w' := by
  have H := hid h
  have HL := hid h.1
  clear h
  obtain ⟨W, hW⟩ : ∃ W, (w.alloc (.cells #[.bool last, .slice A n c] 69)).alloc (.cells #[.int .i64 a.b, .int .i64 a.e, .bool a.put, .int .i64 a.val, .int .i64 a.by_] 32) = W := ⟨_, rfl⟩
  obtain ⟨bg, hbg⟩ : ∃ bg, w.heap.size = bg := ⟨_, rfl⟩
  have BW := hid (show Below w.heap.size w W by rw [← hW]; exact bnew (bnew (bnil w) _) _)
  have B1 := hid (show Blk W bg 69 #[.bool last, .slice A n c] by rw [← hW, ← hbg]; exact (Blk.new w _ _).alloc _)
  have B2' := hid (show Blk W (bg + 1) 32 #[.int .i64 a.b, .int .i64 a.e, .bool a.put, .int .i64 a.val, .int .i64 a.by_] by
    rw [← hW, ← hbg]
    have := Blk.new (w.alloc (.cells #[.bool last, .slice A n c] 69)) 32 #[.int .i64 a.b, .int .i64 a.e, .bool a.put, .int .i64 a.val, .int .i64 a.by_]
    rwa [show (w.alloc (.cells #[.bool last, .slice A n c] 69)).heap.size = w.heap.size + 1 by simp] at this)
  have HS := hid (fun w' (hb : Below W.heap.size W w') => show w'.cell? ⟨bg, 0, none⟩ = some (.bool last) ∧ w'.cell? ⟨bg, 1, none⟩ = some (.slice A n c) ∧ w'.cell? ⟨bg + 1, 3, none⟩ = some (.int .i64 a.val) from
    ⟨(B1.out.below' hb).cell 0, (B1.out.below' hb).cell 1, (B2'.out.below' hb).cell 3⟩)
  have HI := hid (H.out.below BW.out)
  have HW := hid (fun w' (hb : Below W.heap.size W w') => (HI.out.below hb).sl)
  have c0 : W.cell? ⟨bg, 0, none⟩ = some (.bool last) := B1.out.cell 0
  have c1 : W.cell? ⟨bg, 1, none⟩ = some (.slice A n c) := B1.out.cell 1
  have d2 : W.cell? ⟨bg + 1, 2, none⟩ = some (.bool a.put) := B2'.out.cell 2
  have d3 : W.cell? ⟨bg + 1, 3, none⟩ = some (.int .i64 a.val) := B2'.out.cell 3
  have HWW := hid hW
  have HBG := hid hbg
  cases hap : a.put with
  | true =>
    obtain ⟨y, hy⟩ : ∃ y, l ++ [a.val] = y := ⟨_, rfl⟩
    have HY := hid hy
    have HYL := hid (show y.length = n + 1 by rw [← hy, List.length_append, HL.out]; rfl)
    have HNX := hid (show (LO.heap last l).next a = (.heap last y, a.val) by simp [LO.next, hap, hy])
    have hap' := hap
    rw [hap] at d2
    have HWT := hW
    rw [hap] at HWT
    have HWW := hid HWT
    clear hW hy hap HWT hbg
    go_enter Try.func92, Try.ntmps92
    go_upto_region 1 with fail
    rw [HWW.out]
    simp only [HBG.out]
    go_upto_region 3 with fail
    refine wp_region_held_drew (S := (fun w' => w'.cell? ⟨bg, 0, none⟩ = some (.bool last) ∧ w'.cell? ⟨bg, 1, none⟩ = some (.slice A n c) ∧ w'.cell? ⟨bg + 1, 3, none⟩ = some (.int .i64 a.val))) (by kernel_rfl) ?_ (fun hHeld => ?_)
    · (try dsimp only); first | assumption | exact HS.out _ (bnil _).drew | exact HS.out _ (bnew (bnil _).drew _) | exact HS.out _ B2.out | exact HS.out _ (bnew B2.out _) | exact HS.out _ B3.out
    refine wpAnyH_take (i := 0) (oi := ⟨some 13, _, _, _, _, _⟩) (v := ?_) rfl (by kernel_rfl) (by kernel_rfl) (by kernel_rfl) (fun _ _ _ h => h) (Or.inl ⟨by rfl, ?_⟩) (by assumption) ?_
    rotate_left
    · intro w hSw; (try dsimp only at hSw); go_simp <;> with_reducible rfl
    try simp only [Act.put, List.setIfInBounds_toArray, List.set_cons_zero, List.set_cons_succ]
    refine wpAnyH_take (i := 1) (oi := ⟨some 14, _, _, _, _, _⟩) (v := ?_) rfl (by kernel_rfl) (by kernel_rfl) (by kernel_rfl) (fun _ _ _ h => h) (Or.inl ⟨by rfl, ?_⟩) (by assumption) ?_
    rotate_left
    · intro w hSw; (try dsimp only at hSw); go_simp <;> with_reducible rfl
    try simp only [Act.put, List.setIfInBounds_toArray, List.set_cons_zero, List.set_cons_succ]
    refine wpAnyH_take (i := 2) (oi := ⟨some 15, _, _, _, _, _⟩) (v := ?_) rfl (by kernel_rfl) (by kernel_rfl) (by kernel_rfl) (fun _ _ _ h => h) (Or.inl ⟨by rfl, ?_⟩) (by assumption) ?_
    rotate_left
    · intro w hSw; (try dsimp only at hSw); go_simp <;> with_reducible rfl
    try simp only [Act.put, List.setIfInBounds_toArray, List.set_cons_zero, List.set_cons_succ]
    refine wpAnyH_take (i := 3) (oi := ⟨some 16, _, _, _, _, _⟩) (v := ?_) rfl (by kernel_rfl) (by kernel_rfl) (by kernel_rfl) (fun _ _ _ h => h) (Or.inl ⟨by rfl, ?_⟩) (by assumption) ?_
    rotate_left
    · intro w hSw; (try dsimp only at hSw); go_simp <;> with_reducible rfl
    try simp only [Act.put, List.setIfInBounds_toArray, List.set_cons_zero, List.set_cons_succ]
    refine wpAnyH_take (i := 5) (oi := ⟨some 18, _, _, _, _, _⟩) (v := ?_) rfl (by kernel_rfl) (by kernel_rfl) (by kernel_rfl) (fun _ _ _ h => h) (Or.inl ⟨by rfl, ?_⟩) (by assumption) ?_
    rotate_left
    · intro w hSw; (try dsimp only at hSw); go_simp <;> with_reducible rfl
    try simp only [Act.put, List.setIfInBounds_toArray, List.set_cons_zero, List.set_cons_succ]
    refine wpAnyH_take (i := 6) (oi := ⟨some 19, _, _, _, _, _⟩) (v := ?_) rfl (by kernel_rfl) (by kernel_rfl) (by kernel_rfl) (fun _ _ _ h => h) (Or.inl ⟨by rfl, ?_⟩) (by assumption) ?_
    rotate_left
    · intro w hSw; (try dsimp only at hSw); go_simp <;> with_reducible rfl
    try simp only [Act.put, List.setIfInBounds_toArray, List.set_cons_zero, List.set_cons_succ]
    refine wpAnyH_take (i := 11) (oi := ⟨some 24, _, _, _, _, _⟩) (v := ?_) rfl (by kernel_rfl) (by kernel_rfl) (by kernel_rfl) (fun _ _ _ h => h) (Or.inl ⟨by rfl, ?_⟩) (by assumption) ?_
    rotate_left
    · intro w hSw; (try dsimp only at hSw); go_simp <;> with_reducible rfl
    try simp only [Act.put, List.setIfInBounds_toArray, List.set_cons_zero, List.set_cons_succ]
    refine wpAnyH_take (i := 12) (oi := ⟨some 25, _, _, _, _, _⟩) (v := ?_) rfl (by kernel_rfl) (by kernel_rfl) (by kernel_rfl) (fun _ _ _ h => h) (Or.inl ⟨by rfl, ?_⟩) (by assumption) ?_
    rotate_left
    · intro w hSw; (try dsimp only at hSw); go_simp <;> with_reducible rfl
    try simp only [Act.put, List.setIfInBounds_toArray, List.set_cons_zero, List.set_cons_succ]
    refine wpAnyH_ready (rs := [4, 7]) (by kernel_rfl) (by simp) ?_
    refine AllReadyH.cons (o := ⟨some 17, _, _, _, _, _⟩) rfl (fun K hK => ?_) ?_
    go_simp
    refine (lclone A n c l _ (by omega) (HW.out _ (by first | exact (bnil _).drew | exact bnew (bnil _).drew _))).mono ?_; rintro e2 w2 ⟨A2, c2, rfl, O2'⟩; have O2 := hid O2'; clear O2'; have B2 := hid (show Below W.heap.size W w2 from by first | exact bgo (bnil _).drew O2.out.below | exact bgo (bnew (bnil _).drew _) O2.out.below)
    go_wp2_with fail
    refine hK.out _ _ ?_ (fun hHeld => ?_)
    · (try dsimp only); first | assumption | exact HS.out _ (bnil _).drew | exact HS.out _ (bnew (bnil _).drew _) | exact HS.out _ B2.out | exact HS.out _ (bnew B2.out _) | exact HS.out _ B3.out
    clear hK K
    try simp only [Act.put, List.setIfInBounds_toArray, List.set_cons_zero, List.set_cons_succ]
    refine wpAnyH_ready (rs := [7]) (by kernel_rfl) (by simp) ?_
    refine AllReadyH.cons (o := ⟨some 20, _, _, _, _, _⟩) rfl (fun K hK => ?_) AllReadyH.nil
    go_simp
    refine hK.out _ _ ?_ (fun hHeld => ?_)
    · (try dsimp only); first | assumption | exact HS.out _ (bnil _).drew | exact HS.out _ (bnew (bnil _).drew _) | exact HS.out _ B2.out | exact HS.out _ (bnew B2.out _) | exact HS.out _ B3.out
    clear hK K
    try simp only [Act.put, List.setIfInBounds_toArray, List.set_cons_zero, List.set_cons_succ]
    refine wpAnyH_ready (rs := [8]) (by kernel_rfl) (by simp) ?_
    refine AllReadyH.cons (o := ⟨some 21, _, _, _, _, _⟩) rfl (fun K hK => ?_) AllReadyH.nil
    (first | refine step_appY elmI gI_one rfl (.tmp 17) (.tmp 20) rfl (.slice A2 l.length c2) l rfl (O2.out.alloc _) [a.val] y HY rfl (Sl.fresh' _ #[_] 3 1 1 _ rfl rfl) rfl (by rw [HYL.out]; simp only [maxLen]; omega) (by rw [HYL.out]; omega) ?_ | refine step_appY elmI gI_one rfl (.tmp 17) (.tmp 20) rfl (.slice A2 l.length c2) l rfl O2.out [a.val] y HY rfl ((Sl.fresh' _ #[_] 3 1 1 _ rfl rfl).drew.below O2.out.below) rfl (by rw [HYL.out]; simp only [maxLen]; omega) (by rw [HYL.out]; omega) ?_); intro A3 c3 w3 hc3 hc4 O3 _; have B3 := hid (show Below W.heap.size W w3 from by first | exact bgo (bnil _).drew O3.out.below | exact bgo (bnew (bnil _).drew _) O3.out.below)
    refine hK.out _ _ ?_ (fun hHeld => ?_)
    · (try dsimp only); first | assumption | exact HS.out _ (bnil _).drew | exact HS.out _ (bnew (bnil _).drew _) | exact HS.out _ B2.out | exact HS.out _ (bnew B2.out _) | exact HS.out _ B3.out
    clear hK K
    try simp only [Act.put, List.setIfInBounds_toArray, List.set_cons_zero, List.set_cons_succ]
    refine wpAnyH_take (i := 9) (oi := ⟨some 22, _, _, _, _, _⟩) (v := ?_) rfl (by kernel_rfl) (by kernel_rfl) (by kernel_rfl) (fun _ _ _ h => h) (Or.inl ⟨by rfl, ?_⟩) (by assumption) ?_
    rotate_left
    · intro w hSw; (try dsimp only at hSw); go_simp <;> with_reducible rfl
    try simp only [Act.put, List.setIfInBounds_toArray, List.set_cons_zero, List.set_cons_succ]
    refine wpAnyH_ready (rs := [10]) (by kernel_rfl) (by simp) ?_
    refine AllReadyH.cons (o := ⟨some 23, _, _, _, _, _⟩) rfl (fun K hK => ?_) AllReadyH.nil
    go_simp
    refine hK.out _ _ ?_ (fun hHeld => ?_)
    · (try dsimp only); first | assumption | exact HS.out _ (bnil _).drew | exact HS.out _ (bnew (bnil _).drew _) | exact HS.out _ B2.out | exact HS.out _ (bnew B2.out _) | exact HS.out _ B3.out
    clear hK K
    try simp only [Act.put, List.setIfInBounds_toArray, List.set_cons_zero, List.set_cons_succ]
    refine wpAnyH_take (i := 13) (oi := ⟨some 4, _, _, _, _, _⟩) (v := ?_) rfl (by kernel_rfl) (by kernel_rfl) (by kernel_rfl) (fun _ _ _ h => h) (Or.inl ⟨by rfl, ?_⟩) (by assumption) ?_
    rotate_left
    · intro w hSw; (try dsimp only at hSw); go_simp <;> with_reducible rfl
    try simp only [Act.put, List.setIfInBounds_toArray, List.set_cons_zero, List.set_cons_succ]
    refine wpAnyH_take (i := 14) (oi := ⟨some 5, _, _, _, _, _⟩) (v := ?_) rfl (by kernel_rfl) (by kernel_rfl) (by kernel_rfl) (fun _ _ _ h => h) (Or.inl ⟨by rfl, ?_⟩) (by assumption) ?_
    rotate_left
    · intro w hSw; (try dsimp only at hSw); go_simp <;> with_reducible rfl
    try simp only [Act.put, List.setIfInBounds_toArray, List.set_cons_zero, List.set_cons_succ]
    refine wpAnyH_done (by kernel_rfl) ?_ _
    rotate_left
    refine AllReadyH.cons (o := ⟨some 20, _, _, _, _, _⟩) rfl (fun K hK => ?_) AllReadyH.nil
    go_simp
    refine hK.out _ _ ?_ (fun hHeld => ?_)
    · (try dsimp only); first | assumption | exact HS.out _ (bnil _).drew | exact HS.out _ (bnew (bnil _).drew _) | exact HS.out _ B2.out | exact HS.out _ (bnew B2.out _) | exact HS.out _ B3.out
    clear hK K
    try simp only [Act.put, List.setIfInBounds_toArray, List.set_cons_zero, List.set_cons_succ]
    refine wpAnyH_ready (rs := [4]) (by kernel_rfl) (by simp) ?_
    refine AllReadyH.cons (o := ⟨some 17, _, _, _, _, _⟩) rfl (fun K hK => ?_) AllReadyH.nil
    go_simp
    refine (lclone A n c l _ (by omega) (HW.out _ (by first | exact (bnil _).drew | exact bnew (bnil _).drew _))).mono ?_; rintro e2 w2 ⟨A2, c2, rfl, O2'⟩; have O2 := hid O2'; clear O2'; have B2 := hid (show Below W.heap.size W w2 from by first | exact bgo (bnil _).drew O2.out.below | exact bgo (bnew (bnil _).drew _) O2.out.below)
    go_wp2_with fail
    refine hK.out _ _ ?_ (fun hHeld => ?_)
    · (try dsimp only); first | assumption | exact HS.out _ (bnil _).drew | exact HS.out _ (bnew (bnil _).drew _) | exact HS.out _ B2.out | exact HS.out _ (bnew B2.out _) | exact HS.out _ B3.out
    clear hK K
    try simp only [Act.put, List.setIfInBounds_toArray, List.set_cons_zero, List.set_cons_succ]
    refine wpAnyH_ready (rs := [8]) (by kernel_rfl) (by simp) ?_
    refine AllReadyH.cons (o := ⟨some 21, _, _, _, _, _⟩) rfl (fun K hK => ?_) AllReadyH.nil
    (first | refine step_appY elmI gI_one rfl (.tmp 17) (.tmp 20) rfl (.slice A2 l.length c2) l rfl (O2.out.alloc _) [a.val] y HY rfl (Sl.fresh' _ #[_] 3 1 1 _ rfl rfl) rfl (by rw [HYL.out]; simp only [maxLen]; omega) (by rw [HYL.out]; omega) ?_ | refine step_appY elmI gI_one rfl (.tmp 17) (.tmp 20) rfl (.slice A2 l.length c2) l rfl O2.out [a.val] y HY rfl ((Sl.fresh' _ #[_] 3 1 1 _ rfl rfl).drew.below O2.out.below) rfl (by rw [HYL.out]; simp only [maxLen]; omega) (by rw [HYL.out]; omega) ?_); intro A3 c3 w3 hc3 hc4 O3 _; have B3 := hid (show Below W.heap.size W w3 from by first | exact bgo (bnil _).drew O3.out.below | exact bgo (bnew (bnil _).drew _) O3.out.below)
    refine hK.out _ _ ?_ (fun hHeld => ?_)
    · (try dsimp only); first | assumption | exact HS.out _ (bnil _).drew | exact HS.out _ (bnew (bnil _).drew _) | exact HS.out _ B2.out | exact HS.out _ (bnew B2.out _) | exact HS.out _ B3.out
    clear hK K
    try simp only [Act.put, List.setIfInBounds_toArray, List.set_cons_zero, List.set_cons_succ]
    refine wpAnyH_take (i := 9) (oi := ⟨some 22, _, _, _, _, _⟩) (v := ?_) rfl (by kernel_rfl) (by kernel_rfl) (by kernel_rfl) (fun _ _ _ h => h) (Or.inl ⟨by rfl, ?_⟩) (by assumption) ?_
    rotate_left
    · intro w hSw; (try dsimp only at hSw); go_simp <;> with_reducible rfl
    try simp only [Act.put, List.setIfInBounds_toArray, List.set_cons_zero, List.set_cons_succ]
    refine wpAnyH_ready (rs := [10]) (by kernel_rfl) (by simp) ?_
    refine AllReadyH.cons (o := ⟨some 23, _, _, _, _, _⟩) rfl (fun K hK => ?_) AllReadyH.nil
    go_simp
    refine hK.out _ _ ?_ (fun hHeld => ?_)
    · (try dsimp only); first | assumption | exact HS.out _ (bnil _).drew | exact HS.out _ (bnew (bnil _).drew _) | exact HS.out _ B2.out | exact HS.out _ (bnew B2.out _) | exact HS.out _ B3.out
    clear hK K
    try simp only [Act.put, List.setIfInBounds_toArray, List.set_cons_zero, List.set_cons_succ]
    refine wpAnyH_take (i := 13) (oi := ⟨some 4, _, _, _, _, _⟩) (v := ?_) rfl (by kernel_rfl) (by kernel_rfl) (by kernel_rfl) (fun _ _ _ h => h) (Or.inl ⟨by rfl, ?_⟩) (by assumption) ?_
    rotate_left
    · intro w hSw; (try dsimp only at hSw); go_simp <;> with_reducible rfl
    try simp only [Act.put, List.setIfInBounds_toArray, List.set_cons_zero, List.set_cons_succ]
    refine wpAnyH_take (i := 14) (oi := ⟨some 5, _, _, _, _, _⟩) (v := ?_) rfl (by kernel_rfl) (by kernel_rfl) (by kernel_rfl) (fun _ _ _ h => h) (Or.inl ⟨by rfl, ?_⟩) (by assumption) ?_
    rotate_left
    · intro w hSw; (try dsimp only at hSw); go_simp <;> with_reducible rfl
    try simp only [Act.put, List.setIfInBounds_toArray, List.set_cons_zero, List.set_cons_succ]
    refine wpAnyH_done (by kernel_rfl) ?_ _
    rotate_left

    all_goals
      go_wp2_with fail
      refine bodyPost_ret (v := .tuple #[.iface 69 (.agg #[.bool last, .slice A3 y.length c3]), .int .i64 a.val]) (by simp [results, Try.results92, go_sem]) rfl ?_
      refine ⟨_, by rw [HNX.out], ?_, bgo BW.out B3.out⟩
      rw [HNX.out]
      exact ⟨_, _, _, rfl, hc3, hc4, ISl.own O3.out rfl⟩
  | false =>
    rw [hap] at d2
    have HAP := hid hap
    clear hW hap hbg
    cases l with
    | nil =>
      have hn0 : n = 0 := by have := HL.out; simpa using this.symm
      subst hn0
      have HNX := hid (show (LO.heap last []).next a = (.heap last [], -1) by simp [LO.next, HAP.out])
      go_enter Try.func92, Try.ntmps92
      go_upto_region 1 with fail
      rw [HWW.out]
      simp only [HBG.out]
      go_wp2_with fail
      refine bodyPost_ret (v := .tuple #[.iface 69 (.agg #[.bool last, .slice A 0 c]), .int .i64 (-1)]) (by simp [results, Try.results92, go_sem]) rfl ?_
      refine ⟨_, by rw [HNX.out], ?_, BW.out⟩
      rw [HNX.out]
      exact ⟨_, _, _, rfl, hn, hc, HI.out⟩
    | cons x l =>
      obtain ⟨m, hm⟩ : ∃ m, n = m + 1 := ⟨n - 1, by have := HL.out; rw [List.length_cons] at this; omega⟩
      have hne : 0 < n := by omega
      obtain ⟨ad, rfl, hcl⟩ := HI.out.sl.2 hne
      have iN : (1 : Int) ≤ (n : Int) := by omega
      have iNc : (n : Int) ≤ (c : Int) := by omega
      have i1 : ¬ ((n : Int) = 0) := by omega
      cases last with
      | true =>
        obtain ⟨z, hz⟩ : ∃ z, (x :: l)[m]? = some z := ⟨_, List.getElem?_eq_getElem (by have := HL.out; omega)⟩
        have cz : W.cell? (ad.add m) = some (.int .i64 z) := hcl m _ (ints_at hz)
        have HNX := hid (show (LO.heap true (x :: l)).next a = (.heap true (x :: l).dropLast, z) by
          have e1 : (x :: l).getLastD 0 = z := by
            rw [List.getLastD_eq_getLast?, List.getLast?_eq_getElem?, show (x :: l).length - 1 = m by have := HL.out; omega, hz]; rfl
          simp only [LO.next, HAP.out, e1]; rfl)
        have HFR := hid (show ISl W (some ad) m (x :: l).dropLast from ISl.front (by have := HI.out; rw [hm] at this; exact this))
        have iw : IntKind.i64.wrap ((n : Int) - 1) = (m : Int) := by rw [IntWalk.i64_in _ (by omega)]; omega
        have im0 : (0 : Int) ≤ (m : Int) := by omega
        have imN : (m : Int) < (n : Int) := by omega
        have imN2 : (m : Int) ≤ (n : Int) := by omega
        have imc : (m : Int) ≤ (c : Int) := by omega
        have HM := hid hm
        clear hm hz hcl
        go_enter Try.func92, Try.ntmps92
        go_upto_region 1 with fail
        rw [HWW.out]
        simp only [HBG.out]
        go_upto_region 7 with fail
        go_quiet (fail)
        go_wp2_with fail
        have B9 := below_drewN (bnil W) nq
        refine bodyPost_ret (v := .tuple #[.iface 69 (.agg #[.bool true, .slice (some ad) m c]), .int .i64 z]) (by simp [results, Try.results92, go_sem]) rfl ?_
        refine ⟨_, by rw [HNX.out], ?_, bgo BW.out B9⟩
        rw [HNX.out]
        exact ⟨_, _, _, rfl, by have := HM.out; omega, hc, HFR.out.below B9⟩
      | false =>
        have cz : W.cell? ad = some (.int .i64 x) := by have := hcl 0 _ (ints_at (l := x :: l) (k := 0) rfl); unfold Addr.add at this; simpa using this
        have HNX := hid (show (LO.heap false (x :: l)).next a = (.heap false l, x) by simp only [LO.next, HAP.out]; rfl)
        have htl := ISl.tail (cap := c) (by have := HI.out; rw [hm] at this; exact this) (by omega)
        have hsz : n - 1 = m := by omega
        have HSZ := hid hsz
        have HM := hid hm
        clear hm hcl hsz
        by_cases hcap : c = 1
        all_goals
          first
            | (rw [if_pos hcap] at htl; subst hcap)
            | (rw [if_neg hcap] at htl; simp only [Option.map_some] at htl)
          have HTL := hid htl
          clear htl
          go_enter Try.func92, Try.ntmps92
          go_upto_region 1 with fail
          rw [HWW.out]
          simp only [HBG.out]
          go_upto_region 8 with fail
          go_quiet (fail)
          go_wp2_with fail
          have B9 := below_drewN (bnil W) nq
          first
            | (refine bodyPost_ret (v := .tuple #[.iface 69 (.agg #[.bool false, .slice (some ad) (n - 1) 0]), .int .i64 x]) (by first | (simp [results, Try.results92, go_sem]; done) | (simp [results, Try.results92, go_sem]; omega)) rfl ?_
               refine ⟨_, by rw [HNX.out], ?_, bgo BW.out B9⟩
               rw [HNX.out]
               exact ⟨_, _, _, rfl, by omega, by simp [maxLen], by rw [HSZ.out]; exact HTL.out.below B9⟩)
            | (refine bodyPost_ret (v := .tuple #[.iface 69 (.agg #[.bool false, .slice (some (ad.add 1)) (n - 1) (c - 1)]), .int .i64 x]) (by simp [results, Try.results92, go_sem, Addr.add]) rfl ?_
               refine ⟨_, by rw [HNX.out], ?_, bgo BW.out B9⟩
               rw [HNX.out]
               exact ⟨_, _, _, rfl, by omega, by unfold maxLen at hc ⊢; omega, by rw [HSZ.out]; exact HTL.out.below B9⟩)

/-! ### two the same? -/
def SamePost (w : World) (P : Prop) (e : Ending) (w' : World) : Prop := ∃ b : Bool, e = .returned (.bool b) ∧ (b = true ↔ P) ∧ Below w.heap.size w w'
set_option maxHeartbeats 1000000 in
theorem lequal (A B : Option Addr) (n m c d : Nat) (l k : List Int) (w : World) (hn : n ≤ 1000000) (hA : Sl w 1 A n (ints l)) (hB : Sl w 1 B m (ints k)) :
    Calls Try.prog 95 #[.slice A n c, .slice B m d] w fun e w' => SamePost w (l = k) e w' := by
  have HA := hid hA; have HB := hid hB; clear hA hB
  have HLA := hid HA.out.leni; have HLB := hid HB.out.leni
  by_cases hnm : n = m
  · subst hnm
    have hnn : ((n : Int) != (n : Int)) = false := by simp
    go_enter Try.func95, Try.ntmps95
    go_wp2
    go_loopw [13] (fun i wr => ∃ q : Nat, q ≤ n ∧ i = .int .i64 q ∧ Hid (Below w.heap.size w wr) ∧ Hid (l.take q = k.take q)) (fun i _ => n - (intOf i).toNat)
    case atStart => exact ⟨0, Nat.zero_le _, rfl, hid (bnil _), hid (by simp)⟩
    case round =>
      obtain ⟨q, hq, rfl, HW, HT⟩ := hrel
      by_cases hlt : q < n
      · obtain ⟨ad, x, rfl, hx, c1⟩ := (HA.out.below HW.out).ati hlt
        obtain ⟨ad', x', rfl, hx', c2⟩ := (HB.out.below HW.out).ati hlt
        have HX := hid hx; have HX' := hid hx'
        clear hx hx'
        have i1 : (q : Int) < (n : Int) := by omega
        by_cases hxx : x = x'
        · subst hxx
          have hqq : ((x : Int) != (x : Int)) = false := by simp
          go_upto_region 6 with fail
          go_quiet (fail)
          go_wp2_with fail
          have HWQ := hid (bgo HW.out (below_drewN (bnil _) nq))
          go_roundw
          case rel => exact ⟨q + 1, by omega, by go_num, HWQ, hid (by rw [List.take_add_one, List.take_add_one, HT.out, HX.out, HX'.out])⟩
          case measure => simp [intOf]; omega
        · have hqq : ((x : Int) != (x' : Int)) = true := by simp [hxx]
          go_upto_region 6 with fail
          go_quiet (fail)
          go_wp2_with fail
          refine bodyPost_ret (v := .bool false) (by simp [results, Try.results95, go_sem]) rfl ?_
          exact ⟨false, rfl, ⟨fun h => (by cases h), fun h => absurd (by have h1 := HX.out; rw [h, HX'.out] at h1; injection h1 with h1; exact h1.symm) hxx⟩, bgo HW.out (below_drewN (bnil _) nq)⟩
      · obtain rfl : q = n := by omega
        go_wp2
        go_ret
        refine ⟨true, rfl, ⟨fun _ => ?_, fun _ => rfl⟩, HW.out⟩
        have h1 := HT.out
        rwa [List.take_of_length_le (by rw [HLA.out]; exact Nat.le_refl _), List.take_of_length_le (by rw [HLB.out]; exact Nat.le_refl _)] at h1
  · have hnn : ((n : Int) != (m : Int)) = true := by simp; omega
    go_enter Try.func95, Try.ntmps95
    go_wp2
    go_ret
    exact ⟨false, rfl, ⟨fun h => (by cases h), fun h => absurd (by rw [← HLA.out, ← HLB.out, h]) hnm⟩, bnil w⟩
theorem reg_same (x y : Int) (w : World) : Calls Try.prog 89 #[.int .i64 x, .iface 66 (.int .i64 y)] w fun e w' => SamePost w (y = x) e w' := by
  have hta : ∀ w : World, (Instr.typeAssert (.iface 66 (.int .i64 y)) 65 66 false).run Try.prog w = .ok (.int .i64 y) w := fun _ => by kernel_rfl
  by_cases h : y = x
  · subst h
    have hq : ((y : Int) == (y : Int)) = true := by simp
    go_enter Try.func89, Try.ntmps89
    go_wp2_with fail
    go_ret
    exact ⟨true, rfl, by simp, bnil w⟩
  · have hq : ((y : Int) == (x : Int)) = false := by simp [h]
    go_enter Try.func89, Try.ntmps89
    go_wp2_with fail
    go_ret
    exact ⟨false, rfl, by simp [h], bnil w⟩
theorem ctr_same (x y : Int) (w : World) : Calls Try.prog 91 #[.int .i64 x, .iface 67 (.int .i64 y)] w fun e w' => SamePost w (y = x) e w' := by
  have hta : ∀ w : World, (Instr.typeAssert (.iface 67 (.int .i64 y)) 65 67 false).run Try.prog w = .ok (.int .i64 y) w := fun _ => by kernel_rfl
  by_cases h : y = x
  · subst h
    have hq : ((y : Int) == (y : Int)) = true := by simp
    go_enter Try.func91, Try.ntmps91
    go_wp2_with fail
    go_ret
    exact ⟨true, rfl, by simp, bnil w⟩
  · have hq : ((y : Int) == (x : Int)) = false := by simp [h]
    go_enter Try.func91, Try.ntmps91
    go_wp2_with fail
    go_ret
    exact ⟨false, rfl, by simp [h], bnil w⟩
set_option maxRecDepth 100000 in
set_option maxHeartbeats 2000000 in
theorem heap_same (la lb : Bool) (l k : List Int) (A B : Option Addr) (n m c d : Nat) (w : World) (hn : n ≤ 1000) (hm : m ≤ 1000) (hA : ISl w A n l) (hB : ISl w B m k) :
    Calls Try.prog 93 #[.agg #[.bool la, .slice A n c], .iface 69 (.agg #[.bool lb, .slice B m d])] w fun e w' => SamePost w (k = l) e w' := by
  have HA := hid hA; have HB := hid hB; clear hA hB
  have hta : ∀ w : World, (Instr.typeAssert (.iface 69 (.agg #[.bool lb, .slice B m d])) 65 69 false).run Try.prog w = .ok (.agg #[.bool lb, .slice B m d]) w := fun _ => by kernel_rfl
  have hfd : ∀ w : World, (Instr.field 69 (.agg #[.bool lb, .slice B m d]) 1).run Try.prog w = .ok (.slice B m d) w := fun _ => by kernel_rfl
  go_enter Try.func93, Try.ntmps93
  go_wp2_with fail
  go_region_with (refine (lequal B A m n d c k l _ (by omega) (HB.out.below (bnew (bnil w) _).drew).sl (HA.out.below (bnew (bnil w) _).drew).sl).mono ?_; rintro e w2 ⟨b2, rfl, hb2, z2⟩)
  all_goals
    have HB2 := hid hb2
    have Z2 := hid (bgo (bnew (bnil w) _).drew z2)
    clear hb2 z2
    go_wp2_with fail
    go_ret
    exact ⟨b2, rfl, HB2.out, Z2.out⟩
end Go.Proofs.Ytfdgklfkpofkeaa
