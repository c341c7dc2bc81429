/-
  barographkeep.ran: its walk.
-/
import Derived.Test.YtabmkjokeeakdaaDoorRunSure
import Derived.Test.YtabmkjokeeakdaaDoorDoing
import Derived.Test.YtabmkjokeeakdaaDoorAsm3
namespace Go.Proofs.YtabmkjokeeakdaaDoor
open Go.RowKit
set_option linter.unusedVariables false

def eI (o : Option Nat) : Int := match o with | none => -1 | some e => (e : Int)
abbrev gD : Dg × SV → List Value := fun x => [.int .i64 (x.1.b : Int), .int .i64 (eI x.1.e), .int .i64 (x.1.t : Int), .int .i64 (x.1.c : Int), x.2.v]
theorem gD_one (x : Dg × SV) : ∀ u ∈ gD x, u.oneCell' = true := by intro u hu; simp at hu; rcases hu with rfl | rfl | rfl | rfl | rfl <;> rfl
theorem elmD : Elm Tryd.prog 36 41 5 56 := elm_of (z := .agg #[.int .i64 0, .int .i64 0, .int .i64 0, .int .i64 0, .slice none 0 0]) Tryd.underlying36 (by kernel_rfl) rfl (by decide)
def clo (ev : Ev) (sv : SV) (x : Dg × SV) : Dg × SV := if dopen ev x.1 then ({ x.1 with e := some ev.step, told := ev.told }, sv) else x
theorem clo_map (ev : Ev) (sv : SV) (rs : List (Dg × SV)) (hf : ev.fin = true) : (rs.map (clo ev sv)).map (·.1) = dstep (rs.map (·.1)) ev := by
  unfold dstep
  rw [if_pos hf, List.map_map, List.map_map]
  refine List.map_congr_left fun x _ => ?_
  simp only [Function.comp, clo]
  split <;> rfl
theorem evs_len' {es : List (Ev × SV)} {l : List Ev} (h : es.map (·.1) = l) : es.length = l.length := by subst h; simp
theorem evs_at {B : Nat} {w : World} {A : Option Addr} {n c i : Nat} {es : List (Ev × SV)} {x : Ev × SV} (h : w.ownsRow B 68 6 (.slice A n c) n (es.flatMap gE)) (hi : es[i]? = some x) (hn : 0 < n) :
    ∃ b, A = some ⟨b, 0, none⟩ ∧ b < w.heap.size ∧ w.cell? ⟨b, i * 6, none⟩ = some (.int .i64 (x.1.step : Int)) ∧ w.cell? ⟨b, i * 6 + 1, none⟩ = some (.int .i64 (x.1.thread : Int)) ∧ w.cell? ⟨b, i * 6 + 2, none⟩ = some (.int .i64 (x.1.call : Int)) ∧
      w.cell? ⟨b, i * 6 + 3, none⟩ = some (.bool x.1.fin) ∧ w.cell? ⟨b, i * 6 + 4, none⟩ = some (.int .i64 (x.1.err : Int)) ∧ w.cell? ⟨b, i * 6 + 5, none⟩ = some x.2.v := by
  obtain ⟨b, c', e, _, hc⟩ := own_at h hn
  injection e with e1 e2 e3
  subst e1
  have hat : ∀ j u, j < 6 → (gE x)[j]? = some u → w.cell? ⟨b, i * 6 + j, none⟩ = some u := fun j u hj hu => hc _ _ (by rw [flatMap_at gE 6 (fun _ => rfl) es i j x hi hj, hu])
  have e0 := hat 0 _ (by decide) rfl
  exact ⟨b, rfl, World.block_lt_of_cell? w _ e0, e0, hat 1 _ (by decide) rfl, hat 2 _ (by decide) rfl, hat 3 _ (by decide) rfl, hat 4 _ (by decide) rfl, hat 5 _ (by decide) rfl⟩
theorem doings_len (evs : List Ev) : (doings evs).length ≤ evs.length := by
  have key : ∀ (evs : List Ev) (ds : List Dg), (evs.foldl dstep ds).length ≤ ds.length + evs.length := by
    intro evs
    induction evs with
    | nil => intro ds; exact Nat.le_refl _
    | cons e l ih =>
      intro ds
      rw [List.foldl_cons, List.length_cons]
      have h1 := ih (dstep ds e)
      have h2 : (dstep ds e).length ≤ ds.length + 1 := by
        unfold dstep
        split
        · rw [List.length_map]; omega
        · rw [List.length_append]; simp
      omega
  have h := key evs []
  rw [List.length_nil, Nat.zero_add] at h
  exact h
def mid (ev : Ev) (sv : SV) (rs : List (Dg × SV)) (q : Nat) : List (Dg × SV) := (rs.take q).map (clo ev sv) ++ rs.drop q
theorem mid_zero (ev : Ev) (sv : SV) (rs : List (Dg × SV)) : mid ev sv rs 0 = rs := by simp [mid]
theorem mid_all (ev : Ev) (sv : SV) (rs : List (Dg × SV)) {q : Nat} (h : rs.length = q) : mid ev sv rs q = rs.map (clo ev sv) := by
  unfold mid
  rw [List.take_of_length_le (by omega), List.drop_eq_nil_of_le (by omega), List.append_nil]
theorem mid_len (ev : Ev) (sv : SV) (rs : List (Dg × SV)) (q : Nat) : (mid ev sv rs q).length = rs.length := by
  unfold mid
  rw [List.length_append, List.length_map, List.length_take, List.length_drop]
  omega
theorem mid_at (ev : Ev) (sv : SV) (rs : List (Dg × SV)) {q : Nat} {x : Dg × SV} (h : rs[q]? = some x) : (mid ev sv rs q)[q]? = some x := by
  have hl := (List.getElem?_eq_some_iff.1 h).1
  unfold mid
  rw [List.getElem?_append_right (by rw [List.length_map, List.length_take]; omega), List.length_map, List.length_take, List.getElem?_drop, show q + (q - min q rs.length) = q by omega, h]
theorem mid_next (ev : Ev) (sv : SV) (rs : List (Dg × SV)) {q : Nat} {x : Dg × SV} (h : rs[q]? = some x) : mid ev sv rs (q + 1) = (mid ev sv rs q).set q (clo ev sv x) := by
  obtain ⟨hl, hx⟩ := List.getElem?_eq_some_iff.1 h
  unfold mid
  rw [List.take_add_one, h, List.map_append, List.set_append_right _ _ (by rw [List.length_map, List.length_take]; omega), List.length_map, List.length_take, show q - min q rs.length = 0 by omega, List.drop_eq_getElem_cons hl, List.set_cons_zero, List.append_assoc]
  rfl
theorem any_next (p : Dg × SV → Bool) (rs : List (Dg × SV)) {q : Nat} {x : Dg × SV} (h : rs[q]? = some x) : (rs.take (q + 1)).any p = ((rs.take q).any p || p x) := by
  rw [List.take_add_one, h, List.any_append]
  simp
theorem mid_same (ev : Ev) (sv : SV) (rs : List (Dg × SV)) {q : Nat} {x : Dg × SV} (h : rs[q]? = some x) (ho : dopen ev x.1 = false) : mid ev sv rs (q + 1) = mid ev sv rs q := by
  rw [mid_next ev sv rs h]
  have h2 := mid_at ev sv rs h
  obtain ⟨hl, hx⟩ := List.getElem?_eq_some_iff.1 h2
  unfold clo
  rw [ho, if_neg (by decide)]
  refine List.ext_getElem? fun i => ?_
  rw [List.getElem?_set]
  split
  · rename_i e
    subst e
    first | exact h2.symm | (rw [if_pos hl, h2])
  · rfl
/-- a call's cells -/
theorem ds_at {B : Nat} {w : World} {A : Option Addr} {n c i : Nat} {ds : List (Dg × SV)} {x : Dg × SV} (h : w.ownsRow B 41 5 (.slice A n c) n (ds.flatMap gD)) (hi : ds[i]? = some x) (hn : 0 < n) :
    ∃ b, A = some ⟨b, 0, none⟩ ∧ b < w.heap.size ∧ B ≤ b ∧ w.cell? ⟨b, i * 5 + 1, none⟩ = some (.int .i64 (eI x.1.e)) ∧ w.cell? ⟨b, i * 5 + 2, none⟩ = some (.int .i64 (x.1.t : Int)) ∧ w.cell? ⟨b, i * 5 + 3, none⟩ = some (.int .i64 (x.1.c : Int)) ∧ w.cell? ⟨b, i * 5 + 4, none⟩ = some x.2.v := by
  obtain ⟨b, c', e, hb, hc⟩ := own_at h hn
  injection e with e1 e2 e3
  subst e1
  have hat : ∀ j u, j < 5 → (gD x)[j]? = some u → w.cell? ⟨b, i * 5 + j, none⟩ = some u := fun j u hj hu => hc _ _ (by rw [flatMap_at gD 5 (fun _ => rfl) ds i j x hi hj, hu])
  have e1 := hat 1 _ (by decide) rfl
  exact ⟨b, rfl, World.block_lt_of_cell? w _ e1, (h.lt b rfl).1, e1, hat 2 _ (by decide) rfl, hat 3 _ (by decide) rfl, hat 4 _ (by decide) rfl⟩
/-- what ran returns -/
def RanPost (w : World) (m : Mach) (l : List Nat) (e : Ending) (w' : World) : Prop :=
  ∃ (v : Value) (rs : List (Dg × SV)), e = .returned (.tuple #[v, .bool true]) ∧ w'.ownsRow w.heap.size 41 5 v rs.length (rs.flatMap gD) ∧ rs.map (·.1) = doings (play m l).evs ∧
    (∀ x ∈ rs, w'.ownsRow w.heap.size 3 1 x.2.v x.1.told.length (x.1.told.flatMap gI)) ∧ Below w.heap.size w w'
theorem sees3 {W w' : World} {p q r : Addr} {u v x : Value} (h : Below W.heap.size W w') (hp : W.cell? p = some u) (hq : W.cell? q = some v) (hr : W.cell? r = some x) : Below W.heap.size W w' ∧ w'.cell? p = some u ∧ w'.cell? q = some v ∧ w'.cell? r = some x := ⟨h, cell_below h hp, cell_below h hq, cell_below h hr⟩
set_option maxHeartbeats 4000000 in
set_option maxRecDepth 100000 in
theorem ran_of (Aw Ac At As : Option Addr) (nw cw nc cc nt ct ns cs : Nat) (m : Mach) (l : List Nat) (w : World) (hnw : nw ≤ 200) (hnc : nc ≤ 8) (hnt : nt ≤ 4) (hns : ns ≤ 6000) (hncs : ns ≤ cs) (hT : STab w) (hm : MachAt w Ac nc At nt m) (hw : Sl w 1 Aw nw (ints m.words))
    (hl : Sl w 1 As ns (ints (l.map fun x : Nat => (x : Int)))) (hlt : ∀ x ∈ l, x < nt) (herr : ∀ e ∈ (play m l).evs, e.err = 0) (hfin : ∀ k e, (play m l).evs[k]? = some e → e.fin = true → ∃ d ∈ doings ((play m l).evs.take k), dopen e d = true) :
    Calls Tryd.prog 16 #[.agg #[.slice Aw nw cw, .slice Ac nc cc, .slice At nt ct], .slice As ns cs] w fun e w' => RanPost w m l e w' := by
  have HM := hid hm; have HW := hid hw; have HL := hid hl; have HLT := hid hlt; have HT := hid hT; have HERR := hid herr; have HFIN := hid hfin
  clear hm hw hl hlt hT herr hfin
  obtain ⟨X, hX⟩ : ∃ X, w.heap.size = X := ⟨_, rfl⟩
  have BN := hid (bnew (bnil w) (.cells #[.slice Aw nw cw, .slice Ac nc cc, .slice At nt ct] 29))
  have HXB := hid (blkN w 29 #[.slice Aw nw cw, .slice Ac nc cc, .slice At nt ct] X hX)
  go_enter Tryd.func16, Tryd.ntmps16
  go_upto_region 1 with fail
  generalize World.alloc w _ = w2 at *
  have HXW := hid hX
  clear hX
  obtain ⟨xs, hxs⟩ : ∃ xs, (l.map fun x : Nat => (x : Int)) = xs := ⟨_, rfl⟩
  have hyl : xs.length = ns := by rw [← hxs]; have := HL.out.leni; exact this
  have HXL := hid hyl
  have HSL := hid (show Sl w2 1 As ns (xs.flatMap gI) by rw [← hxs]; exact HL.out.below BN.out)
  have HIS := hid (show ∀ (w' : World) (B c : Nat) (A' : Option Addr), w'.ownsRow B 3 1 (.slice A' xs.length c) xs.length (xs.flatMap gI) → Sl w' 1 A' xs.length (ints (l.map fun x : Nat => (x : Int))) from fun w' B c A' h => by have h2 := Sl.own h; rw [← hxs] at h2 ⊢; exact h2)
  have HYS := hid (show ∀ y : List Int, [] ++ y = y from fun y => rfl)
  clear hxs hyl
  have x0 : w2.cell? ⟨X, 0, none⟩ = some (.slice Aw nw cw) := HXB.out.cell 0
  have x1 : w2.cell? ⟨X, 1, none⟩ = some (.slice Ac nc cc) := HXB.out.cell 1
  have x2 : w2.cell? ⟨X, 2, none⟩ = some (.slice At nt ct) := HXB.out.cell 2
  have ltX := HXB.out.lt
  have HT2 := hid (HT.out.below BN.out)
  have HM2 := hid (HM.out.below BN.out)
  have HW2 := hid (HW.out.below BN.out)
  go_region_held3 (fun w' => Below w2.heap.size w2 w' ∧ w'.cell? ⟨X, 0, none⟩ = some (.slice Aw nw cw) ∧ w'.cell? ⟨X, 1, none⟩ = some (.slice Ac nc cc) ∧ w'.cell? ⟨X, 2, none⟩ = some (.slice At nt ct))
    ((refine sees3 ?_ x0 x1 x2; (repeat (first | assumption | exact (‹Below w2.heap.size w2 _ ∧ _ ∧ _›).1 | exact bnil _ | refine Below.drew ?_ | refine bnew ?_ _))))
    (first
      | (refine step_appB elmI gI_one rfl (.const (.slice none 0 0)) (.tmp 15) rfl (.slice none 0 0) [] rfl (own0 _ w2.heap.size _ 1) xs xs (hid (HYS.out xs)) rfl (Sl.drew HSL.out) HXL.out (by rw [HXL.out]; simp only [maxLen]; omega) (by rw [HXL.out]; omega) (Nat.le_refl _) ?_; intro E8 c8 w8 hc8 hc9 HN8 HG8; have HB8 : Below w2.heap.size w2 w8 := bgo (bnil w2).drew (grown_nil HG8.out))
      | (go_at_call 30; ((with_reducible refine (run_play _ _ _ _ nw cw nc cc nt ct xs.length c8 m l w8 hnw hnc hnt (by rw [HXL.out]; omega) (HT2.out.below HB8) (HM2.out.below HB8) (HW2.out.below HB8) (HIS.out _ _ _ _ HN8.out) HLT.out).mono ?_); rintro e w9 hp9; obtain ⟨ev9, wv9, es9, rfl, HA9, HE9, HT9, HW9, b9⟩ := hp9; have HB9 := bgo HB8 b9)))
  all_goals
    obtain ⟨A9, c9, rfl, hn9, hn9'⟩ := own_form HA9
    have hsz8 := HB8.size
    have HEA := hid (own_lower HA9 (show w2.heap.size ≤ w8.heap.size from hsz8))
    have HET := hid (fun x hx => own_lower (HT9 x hx) (show w2.heap.size ≤ w8.heap.size from hsz8))
    have HEE := hid HE9
    have B9 := hid (bgo BN.out HB9)
    have HT9' := hid (HT2.out.below HB9)
    have hmost := prun_most m l 0 (pinit m)
    have hel := evs_len' HE9
    have hpl : (play m l).evs.length ≤ 2 * ns := by
      have h2 : (pinit m).evs.length = 0 := rfl
      have h3 : l.length = ns := by have := HL.out.leni; simpa using this
      unfold play; omega
    clear HN8 HG8 HB8 HA9 HE9 HT9 HW9 b9 HB9 ltX hc8 hc9 HIS HSL HXL HYS x0 x1 x2 hmost hsz8
    obtain ⟨L, hL⟩ : ∃ L, es9.length = L := ⟨_, rfl⟩
    rw [hL] at HEA hn9 hel ⊢
    have HLL := hid hL
    have hL2 : L ≤ 12000 := by omega
    clear hL hel hpl
    unfold maxLen at hn9'
    go_wp2_with fail
    go_loopw [9, 10] (fun v i wr => ∃ (k rn : Nat) (RA : Option Addr) (rc : Nat) (rs : List (Dg × SV)), k ≤ L ∧ i = .int .i64 k ∧ rn ≤ k ∧ v = .slice RA rn rc ∧ Hid (rs.length = rn) ∧ Hid (rs.map (·.1) = doings ((play m l).evs.take k)) ∧
      Hid (wr.ownsRow w9.heap.size 41 5 (.slice RA rn rc) rn (rs.flatMap gD)) ∧ Hid (∀ x ∈ rs, w9.ownsRow w2.heap.size 3 1 x.2.v x.1.told.length (x.1.told.flatMap gI)) ∧ Hid (Below w9.heap.size w9 wr)) (fun _ i _ => L - (intOf i).toNat)
    case atStart => exact ⟨0, 0, none, 0, [], Nat.zero_le _, rfl, Nat.le_refl _, rfl, rfl, hid (by simp [doings]), own0 _ _ _ _, hid (by simp), hid (bnil _)⟩
    case round =>
      obtain ⟨k, rn, RA, rc, rs, hk, rfl, hrn, rfl, HRN, HRS, HRO, HRT, BR⟩ := hrel
      by_cases hlt : k < L
      · have j1 : (k : Int) < (L : Int) := by omega
        obtain ⟨y, hy1⟩ : ∃ y, es9[k]? = some y := ⟨_, List.getElem?_eq_getElem (by rw [HLL.out]; exact hlt)⟩
        obtain ⟨b9, rfl, vb, v0, v1, v2, v3, v4, v5⟩ := evs_at HEA.out hy1 (by omega)
        have ub : b9 < wr.heap.size := Nat.lt_of_lt_of_le vb BR.out.size
        have u0 := cell_below BR.out v0
        have u1 := cell_below BR.out v1
        have u2 := cell_below BR.out v2
        have u3 := cell_below BR.out v3
        have u4 := cell_below BR.out v4
        have u5 := cell_below BR.out v5
        have hyk : (play m l).evs[k]? = some y.1 := by rw [← HEE.out, List.getElem?_map, hy1]; rfl
        have HNX := hid (take_next hyk)
        have hye := HERR.out y.1 (List.mem_of_getElem? hyk)
        have hyf := HFIN.out k y.1 hyk
        have hyt := HET.out y (List.mem_of_getElem? hy1)
        clear hy1
        obtain ⟨⟨st, th, ca, fi, er, td⟩, ⟨Ay, ny, cy⟩⟩ := y
        simp only at u0 u1 u2 u3 u4 u5 v0 v1 v2 v4 v5 hye hyf hyt HNX
        subst hye
        have HYK := hid hyk; have HYF := hid hyf; have HYT := hid hyt
        have HV0 := hid v0; have HV1 := hid v1; have HV2 := hid v2; have HV4 := hid v4; have HV5 := hid v5
        clear hyk hyf hyt v0 v1 v2 v3 v4 v5
        cases fi with
        | false =>
          obtain ⟨y2, hy2⟩ : ∃ y2, rs ++ [((⟨st, none, th, ca, []⟩ : Dg), (⟨none, 0, 0⟩ : SV))] = y2 := ⟨_, rfl⟩
          have HY2 := hid hy2
          have HYE := hid (show y2.length = rn + 1 by rw [← hy2, List.length_append, HRN.out]; rfl)
          have HYL := HYE
          have HYD := hid (show y2.map (·.1) = doings ((play m l).evs.take (k + 1)) by rw [← hy2, List.map_append, HRS.out, HNX.out, doings_snoc]; rfl)
          have HYT2 := hid (show ∀ x ∈ y2, w9.ownsRow w2.heap.size 3 1 x.2.v x.1.told.length (x.1.told.flatMap gI) from fun x hx => by
            rw [← hy2] at hx
            rcases List.mem_append.1 hx with h | h
            · exact HRT.out x h
            · rw [List.mem_singleton.1 h]; exact own0 _ _ _ _)
          have HRR := hid (show wr.ownsRow w9.heap.size 41 5 (.slice RA rn rc) rs.length (rs.flatMap gD) by rw [HRN.out]; exact HRO.out)
          have HBR := hid BR.out.size
          have HGW := hid (fun wA w6 (hb : Below wr.heap.size wr wA) (hG : wA.grownBy w6 (Value.ownBlock (.slice RA rn rc))) => below_app (bgo BR.out hb) (own_below HRO.out hb) hG (Nat.le_trans BR.out.size hb.size))
          clear hy2
          go_wp2_with fail
          go_region_held3 (fun w' => Below w9.heap.size w9 w' ∧ w'.cell? ⟨b9, k * 6, none⟩ = some (.int .i64 (st : Int)) ∧ w'.cell? ⟨b9, k * 6 + 1, none⟩ = some (.int .i64 (th : Int)) ∧ w'.cell? ⟨b9, k * 6 + 2, none⟩ = some (.int .i64 (ca : Int)))
            ((refine sees3 ?_ HV0.out HV1.out HV2.out; (repeat (first | exact HB6 | exact BR.out | refine Below.drew ?_ | refine bnew ?_ _))))
            (first
              | (go_loud (refine step_appC elmD gD_one rfl (.tmp 35) (.tmp 52) rfl (.slice RA rn rc) rs rfl (own_below HRR.out (bnew (bnil _) _).drew) [((⟨st, none, th, ca, []⟩ : Dg), (⟨none, 0, 0⟩ : SV))] y2 HY2 rfl (Sl.drew (Sl.fresh' _ #[_, _, _, _, _] 41 5 1 _ rfl rfl)) rfl (by rw [HYL.out]; simp only [maxLen]; omega) (by rw [HYL.out]; omega) (Nat.le_trans HBR.out (bnew (bnil _) _).drew.size) ?_; intro E6 c6 w6 hc6 hc7 HN6 HG6 HO6; have HB6 := HGW.out _ w6 (bnew (bnil _) _).drew HG6.out)))
          have e6 := HYL.out
          rw [e6] at HN6 hc6 ⊢
          have b6 := hid HB6
          clear HB6 HGW HO6 HG6 HRR HBR HV0 HV1 HV2 HV4 HV5 HYF HYK HNX HYL HRO HRT HRS HRN BR e6
          go_wp2
          go_roundw
          · exact ⟨k + 1, rn + 1, E6, c6, y2, by omega, by first | rfl | simp, by omega, rfl, hid (by rw [← HYE.out]), HYD, HN6, HYT2, b6⟩
          · simp only [intOf]; omega
        | true =>
          have HANY := hid (show rs.any (fun x => dopen ⟨st, th, ca, true, 0, td⟩ x.1) = true by
            obtain ⟨d, hd1, hd2⟩ := HYF.out rfl
            rw [← HRS.out] at hd1
            obtain ⟨x, hx1, rfl⟩ := List.mem_map.1 hd1
            exact List.any_eq_true.2 ⟨x, hx1, hd2⟩)
          have HYD := hid (show (rs.map (clo ⟨st, th, ca, true, 0, td⟩ ⟨Ay, ny, cy⟩)).map (·.1) = doings ((play m l).evs.take (k + 1)) by rw [clo_map _ _ _ rfl, HRS.out, HNX.out, doings_snoc])
          have HYT2 := hid (show ∀ x ∈ rs.map (clo ⟨st, th, ca, true, 0, td⟩ ⟨Ay, ny, cy⟩), w9.ownsRow w2.heap.size 3 1 x.2.v x.1.told.length (x.1.told.flatMap gI) from fun x hx => by
            obtain ⟨y, hy, rfl⟩ := List.mem_map.1 hx
            unfold clo
            split
            · exact HYT.out
            · exact HRT.out y hy)
          clear HYF HYK HNX
          clear u0 u1 u2 u4 u5
          go_wp2_with fail
          go_loopw [11, 12] (fun v i wq => ∃ (q : Nat) (fb : Bool), q ≤ rn ∧ i = .int .i64 q ∧ v = .bool fb ∧ Hid (fb = (rs.take q).any (fun x => dopen ⟨st, th, ca, true, 0, td⟩ x.1)) ∧
            Hid (wq.ownsRow w9.heap.size 41 5 (.slice RA rn rc) rn ((mid ⟨st, th, ca, true, 0, td⟩ ⟨Ay, ny, cy⟩ rs q).flatMap gD)) ∧ Hid (Below w9.heap.size w9 wq)) (fun _ i _ => rn - (intOf i).toNat)
          case atStart => exact ⟨0, false, Nat.zero_le _, rfl, rfl, hid (by simp), hid (by rw [mid_zero]; exact HRO.out), BR⟩
          case round =>
            obtain ⟨q, fb, hq, rfl, rfl, HFB, HQO, BQ⟩ := hrel
            clear BR HRO HRT HRS ub vb j1
            have ub : b9 < wr.heap.size := Nat.lt_of_lt_of_le (World.block_lt_of_cell? w9 _ HV0.out) BQ.out.size
            have j1 : (k : Int) < (L : Int) := by omega
            by_cases hqr : q < rn
            · have j2 : (q : Int) < (rn : Int) := by omega
              obtain ⟨x, hx⟩ : ∃ x, rs[q]? = some x := ⟨_, List.getElem?_eq_getElem (by rw [HRN.out]; exact hqr)⟩
              have HX := hid hx
              obtain ⟨bd, rfl, lb, hBd, o1, o2, o3, o4⟩ := ds_at HQO.out (mid_at ⟨st, th, ca, true, 0, td⟩ ⟨Ay, ny, cy⟩ rs hx) (by omega)
              clear hx
              have HBd := hid hBd
              have HST := fun j (y : Dg × SV) u (hj : j < 5) hy => (own_setG (g := gD) (y := y) (u := u) (fun _ => rfl) HQO.out (mid_at ⟨st, th, ca, true, 0, td⟩ ⟨Ay, ny, cy⟩ rs HX.out) (j := j) hj hy)
              have f1 := (HST 1 (⟨x.1.b, some 0, x.1.t, x.1.c, x.1.told⟩, x.2) _ (by decide) rfl).2
              have f4 := (HST 4 (x.1, ⟨none, 0, 0⟩) _ (by decide) rfl).2
              have hne : bd ≠ b9 := by have := World.block_lt_of_cell? w9 _ HV0.out; dsimp only at this; omega
              have hne2 := hne.symm
              clear HST
              obtain ⟨⟨b0, eo, t0, c0, td0⟩, ⟨A0, n0, cc0⟩⟩ := x
              simp only at o1 o2 o3 o4
              have u0 := cell_below BQ.out HV0.out
              have u1 := cell_below BQ.out HV1.out
              have u2 := cell_below BQ.out HV2.out
              have u5 := cell_below BQ.out HV5.out
              by_cases h1 : t0 = th
              · subst h1
                by_cases h2 : c0 = ca
                · subst h2
                  cases eo with
                  | none =>
                    have o1 : wr.cell? ⟨bd, q * 5 + 1, none⟩ = some (.int .i64 (-1)) := o1
                    have HDO := hid (show dopen ⟨st, t0, c0, true, 0, td⟩ ⟨b0, none, t0, c0, td0⟩ = true by simp [dopen])
                    have HS2 := hid (fun (w' : World) (h : w'.ownsRow w9.heap.size 41 5 (.slice (some ⟨bd, 0, none⟩) rn rc) rn ((mid ⟨st, t0, c0, true, 0, td⟩ ⟨Ay, ny, cy⟩ rs q).flatMap gD)) =>
                      show ((w'.setCell ⟨bd, q * 5 + 1, none⟩ (.int .i64 (st : Int))).setCell ⟨bd, q * 5 + 4, none⟩ (.slice Ay ny cy)).ownsRow w9.heap.size 41 5 (.slice (some ⟨bd, 0, none⟩) rn rc) rn ((mid ⟨st, t0, c0, true, 0, td⟩ ⟨Ay, ny, cy⟩ rs (q + 1)).flatMap gD) from by
                        have hm := mid_at ⟨st, t0, c0, true, 0, td⟩ ⟨Ay, ny, cy⟩ rs HX.out
                        have a1 := (own_setG (g := gD) (y := (⟨b0, some st, t0, c0, td0⟩, ⟨A0, n0, cc0⟩)) (u := .int .i64 (st : Int)) (fun _ => rfl) h hm (j := 1) (by decide) rfl).1
                        have a2 := (own_setG (g := gD) (y := (⟨b0, some st, t0, c0, td⟩, ⟨Ay, ny, cy⟩)) (u := .slice Ay ny cy) (fun _ => rfl) a1 (List.getElem?_set_self (List.getElem?_eq_some_iff.1 hm).1) (j := 4) (by decide) rfl).1
                        have ec : clo ⟨st, t0, c0, true, 0, td⟩ ⟨Ay, ny, cy⟩ (⟨b0, none, t0, c0, td0⟩, ⟨A0, n0, cc0⟩) = (⟨b0, some st, t0, c0, td⟩, ⟨Ay, ny, cy⟩) := by unfold clo; rw [if_pos HDO.out]
                        rw [List.set_set] at a2
                        rw [mid_next _ _ rs HX.out, ec]
                        exact a2)
                    go_wp2_with fail
                    go_quiet (fail)
                    go_wp2_with fail
                    go_roundw
                    · exact ⟨q + 1, true, by omega, by first | rfl | simp, rfl, hid (by rw [any_next _ rs HX.out]; show _ = (_ || dopen _ _); rw [HDO.out, Bool.or_true]), hid (HS2.out _ (own_below HQO.out (below_drewN (bnil _) _))), hid (((below_drewN BQ.out _).setCell (p := ⟨bd, q * 5 + 1, none⟩) HBd.out _).setCell (p := ⟨bd, q * 5 + 4, none⟩) HBd.out _)⟩
                    · simp only [intOf]; omega
                  | some e0 =>
                    have o1 : wr.cell? ⟨bd, q * 5 + 1, none⟩ = some (.int .i64 (e0 : Int)) := o1
                    have HDO := hid (show dopen ⟨st, t0, c0, true, 0, td⟩ ⟨b0, some e0, t0, c0, td0⟩ = false by simp [dopen])
                    have q1 : ¬ ((e0 : Int) = -1) := by omega
                    have q2 : ((e0 : Int) == -1) = false := by simp
                    have q3 : decide ((e0 : Int) = -1) = false := by simp
                    go_wp2_with fail
                    go_quiet (fail)
                    go_wp2_with fail
                    go_roundw
                    · exact ⟨q + 1, fb, by omega, by first | rfl | simp, rfl, hid (by rw [any_next _ rs HX.out, HFB.out]; show _ = (_ || dopen _ _); rw [HDO.out, Bool.or_false]), hid (by rw [mid_same _ _ rs HX.out HDO.out]; exact own_below HQO.out (below_drewN (bnil _) _)), hid (below_drewN BQ.out _)⟩
                    · simp only [intOf]; omega
                · have q1 : ¬ ((c0 : Int) = (ca : Int)) := by omega
                  have q2 : ((c0 : Int) == (ca : Int)) = false := by simp; omega
                  have q3 : decide ((c0 : Int) = (ca : Int)) = false := by simp; omega
                  have q4 : decide (c0 = ca) = false := by simp; omega
                  have q5 : (c0 == ca) = false := by simp; omega
                  have HDO := hid (show dopen ⟨st, t0, ca, true, 0, td⟩ ⟨b0, eo, t0, c0, td0⟩ = false by simp [dopen, h2])
                  go_wp2_with fail
                  go_quiet (fail)
                  go_wp2_with fail
                  go_roundw
                  · exact ⟨q + 1, fb, by omega, by first | rfl | simp, rfl, hid (by rw [any_next _ rs HX.out, HFB.out]; show _ = (_ || dopen _ _); rw [HDO.out, Bool.or_false]), hid (by rw [mid_same _ _ rs HX.out HDO.out]; exact own_below HQO.out (below_drewN (bnil _) _)), hid (below_drewN BQ.out _)⟩
                  · simp only [intOf]; omega
              · have q1 : ¬ ((t0 : Int) = (th : Int)) := by omega
                have q2 : ((t0 : Int) == (th : Int)) = false := by simp; omega
                have q3 : decide ((t0 : Int) = (th : Int)) = false := by simp; omega
                have q4 : decide (t0 = th) = false := by simp; omega
                have q5 : (t0 == th) = false := by simp; omega
                have HDO := hid (show dopen ⟨st, th, ca, true, 0, td⟩ ⟨b0, eo, t0, c0, td0⟩ = false by simp [dopen, h1])
                go_wp2_with fail
                go_quiet (fail)
                go_wp2_with fail
                go_roundw
                · exact ⟨q + 1, fb, by omega, by first | rfl | simp, rfl, hid (by rw [any_next _ rs HX.out, HFB.out]; show _ = (_ || dopen _ _); rw [HDO.out, Bool.or_false]), hid (by rw [mid_same _ _ rs HX.out HDO.out]; exact own_below HQO.out (below_drewN (bnil _) _)), hid (below_drewN BQ.out _)⟩
                · simp only [intOf]; omega
            · obtain rfl : q = rn := by omega
              have j2 : ¬ (q : Int) < (q : Int) := by omega
              have e1 : fb = true := by
                have h := HFB.out
                rw [List.take_of_length_le (by rw [HRN.out]; exact Nat.le_refl _)] at h
                rw [h]; exact HANY.out
              subst e1
              have u4 := cell_below BQ.out HV4.out
              go_wp2_with fail
              go_roundw
              · exact ⟨k + 1, q, RA, rc, rs.map (clo ⟨st, th, ca, true, 0, td⟩ ⟨Ay, ny, cy⟩), by omega, by first | rfl | simp, by omega, rfl, hid (by rw [List.length_map, HRN.out]), HYD, hid (by rw [← mid_all _ _ _ HRN.out]; exact HQO.out), HYT2, BQ⟩
              · simp only [intOf]; omega
      · obtain rfl : k = L := by omega
        have j1 : ¬ (k : Int) < (k : Int) := by omega
        have E := hid (show (play m l).evs.take k = (play m l).evs from List.take_of_length_le (by rw [← HEE.out, List.length_map, HLL.out]; exact Nat.le_refl _))
        rw [E.out] at HRS
        go_wp2_with fail
        refine (run_sure _ (HT9'.out.below BR.out)).mono ?_
        rintro e w10 ⟨rfl, b10⟩
        go_wp2
        go_ret2
        have hszw : w.heap.size ≤ w2.heap.size := BN.out.size
        have hs9 : w.heap.size ≤ w9.heap.size := B9.out.size
        exact ⟨_, rs, rfl, by rw [HRN.out]; exact own_below (own_lower HRO.out hs9) b10, HRS.out, fun x hx => own_below (own_below (own_lower (HRT.out x hx) hszw) BR.out) b10, bgo (bgo B9.out BR.out) b10⟩
end Go.Proofs.YtabmkjokeeakdaaDoor
