/-
  run.Play: its walk.
-/
import Derived.Test.YtabmkjokeeakdaaDoorRunRs
import Derived.Deep.CutBlock
import Derived.Deep.DeepCutAuto
import Derived.Deep.RegionLaw
namespace Go.Proofs.YtabmkjokeeakdaaDoor
open Go.RowKit
set_option linter.unusedVariables false

abbrev gP : Nat → List Value := fun g => [.pointer (some ⟨g, 0, none⟩)]
theorem gP_one (x : Nat) : ∀ u ∈ gP x, u.oneCell' = true := by intro u hu; simp at hu; subst hu; rfl
theorem gE_one (x : Ev × SV) : ∀ u ∈ gE x, u.oneCell' = true := by
  intro u hu; simp at hu; rcases hu with rfl | rfl | rfl | rfl | rfl | rfl <;> rfl
theorem elmT : Elm Tryd.prog 88 89 1 8 := elm_of (z := .pointer none) Tryd.underlying88 (by kernel_rfl) rfl (by decide)
theorem elmE : Elm Tryd.prog 64 68 6 64 := elm_of (z := .agg #[.int .i64 0, .int .i64 0, .int .i64 0, .bool false, .int .i64 0, .slice none 0 0]) Tryd.underlying64 (by kernel_rfl) rfl (by decide)
/-- threads that have begun nothing -/
structure Th0 (w0 w : World) (cvs : List Value) (gs : List Nat) : Prop where
  len : gs.length ≤ cvs.length
  ge : ∀ g ∈ gs, w0.heap.size ≤ g
  dist : ∀ (j k g : Nat), gs[j]? = some g → gs[k]? = some g → j = k
  blk : ∀ (j g : Nat) (v : Value), gs[j]? = some g → cvs[j]? = some v → Pb w g v 0 none
theorem gP_map (gs : List Nat) : gs.flatMap gP = (List.range gs.length).map fun j => Value.pointer (some ⟨gs.getD j 0, 0, none⟩) := by
  refine List.ext_getElem? fun j => ?_
  by_cases h : j < gs.length
  · have h1 := flatMap_at gP 1 (fun _ => rfl) gs j 0 gs[j] (List.getElem?_eq_getElem h) (by decide)
    rw [Nat.mul_one, Nat.add_zero] at h1
    rw [h1, List.getElem?_map, List.getElem?_range h]
    show some (Value.pointer (some ⟨gs[j], 0, none⟩)) = some (Value.pointer (some ⟨gs.getD j 0, 0, none⟩))
    rw [List.getD_eq_getElem?_getD, List.getElem?_eq_getElem h]; rfl
  · rw [List.getElem?_eq_none (by rw [flatMap_len gP 1 (fun _ => rfl)]; omega), List.getElem?_eq_none (by simp; omega)]
theorem Th0.snoc {w0 w w' : World} {cvs : List Value} {gs : List Nat} {u pv : Value} {xs : List Value} {q : Nat} (h : Th0 w0 w cvs gs) (hb : w0.heap.size ≤ w.heap.size) (hu : cvs[gs.length]? = some u) (o : Obj)
    (hp : ((w.alloc (.cells #[u, .int .i64 0, .pointer none] 92)).alloc o).ownsRow w0.heap.size 89 1 pv q xs)
    (hg : ((w.alloc (.cells #[u, .int .i64 0, .pointer none] 92)).alloc o).grownBy w' pv.ownBlock) : Th0 w0 w' cvs (gs ++ [w.heap.size]) := by
  have hl : gs.length < cvs.length := (List.getElem?_eq_some_iff.1 hu).1
  have glt : ∀ (j g : Nat), gs[j]? = some g → g < w.heap.size := by
    intro j g hj
    have hjl := (List.getElem?_eq_some_iff.1 hj).1
    exact (h.blk j g _ hj (List.getElem?_eq_getElem (show j < cvs.length by omega))).lt
  have hc := Chg.of_grown hg (M := fun k => pv.ownBlock = some k) (fun k e => e)
  have hnew : Pb (w.alloc (.cells #[u, .int .i64 0, .pointer none] 92)) w.heap.size u 0 none := Blk.new w _ _
  refine ⟨by rw [List.length_append, List.length_singleton]; omega, ?_, ?_, ?_⟩
  · intro g hg
    rcases List.mem_append.1 hg with e | e
    · exact h.ge g e
    · rw [List.mem_singleton.1 e]; exact hb
  · intro j k g hj hk
    rw [List.getElem?_append] at hj hk
    split at hj
    · split at hk
      · exact h.dist j k g hj hk
      · have := glt j g hj
        rw [List.getElem?_singleton] at hk
        split at hk
        · injection hk with hk; omega
        · cases hk
    · split at hk
      · have := glt k g hk
        rw [List.getElem?_singleton] at hj
        split at hj
        · injection hj with hj; omega
        · cases hj
      · rw [List.getElem?_singleton] at hj hk
        split at hj
        · split at hk
          · omega
          · cases hk
        · cases hj
  · intro j g v hj hv
    rw [List.getElem?_append] at hj
    split at hj
    · have hb1 := ((h.blk j g v hj hv).alloc (.cells #[u, .int .i64 0, .pointer none] 92)).alloc o
      exact hc.blk hb1 (own_ne_blk hp hb1 (by decide))
    · rw [List.getElem?_singleton] at hj
      split at hj
      · injection hj with hj
        subst hj
        obtain rfl : j = gs.length := by omega
        rw [hu] at hv; injection hv with hv; subst hv
        have hb1 := hnew.alloc o
        exact hc.blk hb1 (own_ne_blk hp hb1 (by decide))
      · cases hj
/-- the run's start in memory -/
theorem PM.start {w0 w1 w : World} {m : Mach} {cvs : List Value} {gs : List Nat} {wv pv : Value} (ht : Th0 w1 w cvs gs) (h01 : Below w0.heap.size w0 w1) (h1 : Below w1.heap.size w1 w) (hcv : cvs.length = m.threads.length) (hl : gs.length = m.threads.length)
    (hp : w.ownsRow w1.heap.size 89 1 pv gs.length (gs.flatMap gP)) (hw : WS w0.heap.size w wv m.words) :
    PM w0.heap.size w0 w m (fun j => gs.getD j 0) (fun _ => 0) (fun j => cvs.getD j (.slice none 0 0)) (fun _ => .slice none 0 0) wv pv m.threads.length [] (.slice none 0 0) (pinit m) := by
  have hth : ∀ j p, (pinit m).ths[j]? = some p → p = ⟨0, none⟩ ∧ j < gs.length := by
    intro j p h
    unfold pinit at h
    rw [List.getElem?_replicate] at h
    split at h
    · injection h with h; exact ⟨h.symm, by rw [hl]; assumption⟩
    · cases h
  refine ⟨Nat.le_trans h01.size h1.size, by simp [pinit], ?_, ?_, ?_, ?_, ?_, ?_, fun _ _ => rfl, by simp, rfl, World.ownsRow_nil _ _ _ _, ?_, hw⟩
  · intro j p h
    obtain ⟨rfl, hj⟩ := hth j p h
    have hg : gs[j]? = some gs[j] := List.getElem?_eq_getElem hj
    have hv : cvs[j]? = some cvs[j] := List.getElem?_eq_getElem (by omega)
    have e1 : gs.getD j 0 = gs[j] := by rw [List.getD_eq_getElem?_getD, hg]; rfl
    have e2 : cvs.getD j (.slice none 0 0) = cvs[j] := by rw [List.getD_eq_getElem?_getD, hv]; rfl
    rw [e1, e2]
    exact ⟨Nat.le_trans h01.size (ht.ge _ (List.getElem_mem hj)), ht.blk j _ _ hg hv⟩
  · intro j p ci t h hc
    obtain ⟨rfl, _⟩ := hth j p h
    cases hc
  · intro j k hj hk hjk e
    have hj' : j < gs.length := by omega
    have hk' : k < gs.length := by omega
    have e' : gs[j] = gs[k] := by
      rw [List.getD_eq_getElem?_getD, List.getD_eq_getElem?_getD, List.getElem?_eq_getElem hj', List.getElem?_eq_getElem hk'] at e
      exact e
    exact hjk (ht.dist j k _ (List.getElem?_eq_getElem hj') (by rw [e']; exact List.getElem?_eq_getElem hk'))
  · intro j k p q h _ hc
    obtain ⟨rfl, _⟩ := hth j p h
    cases hc
  · intro j k _ b hb
    simp [Value.ownBlock] at hb
  · intro j b hb
    simp [Value.ownBlock] at hb
  · have := own_lower hp h01.size
    rw [gP_map, hl] at this
    exact this
theorem sees4 {W w' : World} {p q r t : Addr} {u v x y : Value} (h : Below W.heap.size W w') (hp : W.cell? p = some u) (hq : W.cell? q = some v) (hr : W.cell? r = some x) (ht : W.cell? t = some y) : Below W.heap.size W w' ∧ w'.cell? p = some u ∧ w'.cell? q = some v ∧ w'.cell? r = some x ∧ w'.cell? t = some y := ⟨h, cell_below h hp, cell_below h hq, cell_below h hr, cell_below h ht⟩
theorem sees4c {W w' : World} {p q r t : Addr} {u v x y : Value} (h : Below W.heap.size W w') (hp : W.cell? p = some u) (hq : W.cell? q = some v) (hr : W.cell? r = some x) (ht : W.cell? t = some y) : w'.cell? p = some u ∧ w'.cell? q = some v ∧ w'.cell? r = some x ∧ w'.cell? t = some y := ⟨cell_below h hp, cell_below h hq, cell_below h hr, cell_below h ht⟩
theorem grown4 {w w6 : World} {base e sz : Nat} {v : Value} {n : Nat} {xs : List Value} {g h : Nat} {t t' : TypeId} {cs cs' : Array Value} (hown : w.ownsRow base e sz v n xs) (hg : Blk w g t cs) (hh : Blk w h t' cs') (hne : e ≠ t) (hne' : e ≠ t') (o : Obj)
    (hG : (w.drew.alloc o).grownBy w6 v.ownBlock) {i j k l : Nat} {a b c d : Value} (h1 : w.cell? ⟨g, i, none⟩ = some a) (h2 : w.cell? ⟨g, j, none⟩ = some b) (h3 : w.cell? ⟨h, k, none⟩ = some c) (h4 : w.cell? ⟨h, l, none⟩ = some d) :
    w6.cell? ⟨g, i, none⟩ = some a ∧ w6.cell? ⟨g, j, none⟩ = some b ∧ w6.cell? ⟨h, k, none⟩ = some c ∧ w6.cell? ⟨h, l, none⟩ = some d := by
  have b1 : Below w.heap.size w (w.drew.alloc o) := bnew (bnil w).drew o
  have c1 := Chg.of_grown hG (M := fun k => v.ownBlock = some k) (fun k e => e)
  have n1 := own_ne_blk hown hg hne
  have n2 := own_ne_blk hown hh hne'
  exact ⟨c1.cell (cell_below b1 h1) n1, c1.cell (cell_below b1 h2) n1, c1.cell (cell_below b1 h3) n2, c1.cell (cell_below b1 h4) n2⟩
theorem step_appB {P : Program} {w : World} {t e : TypeId} {sz bytes : Nat} (E : Elm P t e sz bytes) {α : Type} {g : α → List Value} (hg : ∀ x, ∀ u ∈ g x, u.oneCell' = true) {ops : Array Oper} {o : Oper} {a : Act} {K : Act → World → Prop} {Q : Exit → Act → World → Prop} {D : Prop} (hw : Region.wanted o (yielded ops a.tmps) = true) (s x : Operand)
    (ho : o.op = .call { callee := .builtin .append, args := #[s, x], argTypes := #[t, t] })
    {base : Nat} (v : Value) (l : List α) (hs : a.eval s = v) (hown : w.ownsRow base e sz v l.length (l.flatMap g))
    {A : Option Addr} {n c : Nat} (m y : List α) (hy : Hid (l ++ m = y)) (hx : a.eval x = .slice A n c) (hr : Sl w sz A n (m.flatMap g)) (hn : m.length = n)
    (h63 : y.length ≤ maxLen) (hbytes : y.length * bytes ≤ 140737488355328) (hbase : base ≤ w.heap.size)
    (h : ∀ A' c' w', y.length ≤ c' → c' ≤ maxLen → Hid (w'.ownsRow base e sz (.slice A' y.length c') y.length (y.flatMap g)) → Hid (w.grownBy w' v.ownBlock) → K (a.put o.dst (.slice A' y.length c')) w') :
    if Region.wanted o (yielded ops a.tmps) = true then Oper.wp P o a w K Q else D := by
  rw [if_pos hw]
  have hy' : l ++ m = y := hy
  subst hy'
  subst hn
  rw [List.length_append] at h63 hbytes
  obtain ⟨i, z, hi, hz, hz1, hz2, hz3⟩ := E.ex
  refine wp_append_sl w s x t ho base e i z sz bytes E.ht hi hz hz1 hz2 hz3 E.pos v l.length (l.flatMap g) hs hown A m.length c (m.flatMap g) hx hr (flat_one g hg m) h63 hbytes hbase fun v' w' h1 h2 _ => ?_
  rw [← List.flatMap_append, ← List.length_append] at h1
  obtain ⟨A', c', rfl, hc1, hc2⟩ := own_form h1
  exact h A' c' w' hc1 hc2 h1 h2
/-- what run.Play returns -/
def PlayPost (w : World) (m : Mach) (l : List Nat) (e : Ending) (w' : World) : Prop :=
  ∃ (ev wv : Value) (es : List (Ev × SV)), e = .returned (.tuple #[ev, wv, .int .i64 0]) ∧ w'.ownsRow w.heap.size 68 6 ev es.length (es.flatMap gE) ∧ es.map (·.1) = (play m l).evs ∧
      (∀ x ∈ es, w'.ownsRow w.heap.size 3 1 x.2.v x.1.told.length (x.1.told.flatMap gI)) ∧ WS w.heap.size w' wv (play m l).words ∧ Below w.heap.size w w'
set_option maxHeartbeats 8000000 in
set_option maxRecDepth 100000 in
theorem run_play (Aw Ac At As : Option Addr) (nw cw nc cc nt ct ns cs : Nat) (m : Mach) (l : List Nat) (w : World) (hnw : nw ≤ 200) (hnc : nc ≤ 8) (hnt : nt ≤ 4) (hns : ns ≤ 6000) (hT : STab w) (hm : MachAt w Ac nc At nt m) (hw : Sl w 1 Aw nw (ints m.words))
    (hl : Sl w 1 As ns (ints (l.map fun x : Nat => (x : Int)))) (hlt : ∀ x ∈ l, x < nt) :
    Calls Tryd.prog 30 #[.agg #[.slice Aw nw cw, .slice Ac nc cc, .slice At nt ct], .slice As ns cs] w fun e w' => PlayPost w m l e w' := by
  have HM := hid hm; have HW := hid hw; have HL := hid hl; have HLT := hid hlt; have HT := hid hT
  clear hm hw hl hlt hT
  obtain ⟨mb, hmb⟩ : ∃ mb, w.heap.size = mb := ⟨_, rfl⟩
  obtain ⟨w0, hw0⟩ : ∃ w0, w.alloc (.cells #[.slice Aw nw cw, .slice Ac nc cc, .slice At nt ct] 29) = w0 := ⟨_, rfl⟩
  have BL := hid (show Blk w0 mb 29 #[.slice Aw nw cw, .slice Ac nc cc, .slice At nt ct] by rw [← hw0, ← hmb]; exact Blk.new w _ _)
  have B0 := hid (show Below w.heap.size w w0 by rw [← hw0]; exact bnew (bnil w) _)
  have f0 : w0.cell? ⟨mb, 0, none⟩ = some (.slice Aw nw cw) := BL.out.cell 0
  have f1 : w0.cell? ⟨mb, 1, none⟩ = some (.slice Ac nc cc) := BL.out.cell 1
  have f2 : w0.cell? ⟨mb, 2, none⟩ = some (.slice At nt ct) := BL.out.cell 2
  have i1 : ¬ (6000 < (ns : Int)) := by omega
  go_enter Tryd.func30, Tryd.ntmps30
  go_wp2_with fail
  refine (run_may Aw Ac At nw cw nc cc nt ct m w0 hnw hnc hnt (HT.out.below B0.out) (HM.out.below B0.out)).mono ?_
  rintro e w1 ⟨rfl, b1⟩
  have B1 := hid b1; clear b1
  have f0 := cell_below B1.out f0; have f1 := cell_below B1.out f1; have f2 := cell_below B1.out f2
  have BW1 := hid (bgo B0.out B1.out)
  go_wp2_with fail
  refine (contains_ints mb As ns cs nt l w1 At ct hns (HL.out.below BW1.out) HLT.out f2).mono ?_
  rintro e w2 ⟨rfl, rfl⟩
  go_wp2_with fail
  refine (clone_ints Aw nw cw m.words _ (by omega) (HW.out.below BW1.out)).mono ?_
  rintro e w3 ⟨wv, rfl, ho3⟩
  have f0 := cell_below ho3.below f0; have f1 := cell_below ho3.below f1; have f2 := cell_below ho3.below f2
  have O3 := hid ho3; clear ho3
  have BW3 := hid (bgo BW1.out O3.out.below)
  have HM3 := hid (HM.out.below BW3.out)
  obtain ⟨tvs, t1, t2, t3⟩ := HM.out.threads
  have HT1 := hid t1; have HT2 := hid t2; have HT3 := hid t3; have HNT := hid HM.out.lt
  clear t1 t2 t3
  go_upto_block 1 with fail
  go_cut [8] (fun v wr => ∃ (A1 : Option Addr) (c1 : Nat) (gs : List Nat), v = .slice A1 nt c1 ∧ gs.length = nt ∧ Hid (Ow w3 wr 89 1 gP (.slice A1 nt c1) gs) ∧ Hid (Th0 w3 wr tvs gs))
  case first =>
    go_wp2_with fail
    go_loopw [8, 34] (fun v i wr => ∃ (k : Nat) (A1 : Option Addr) (c1 : Nat) (gs : List Nat), k ≤ nt ∧ i = .int .i64 k ∧ v = .slice A1 k c1 ∧ Hid (gs.length = k) ∧ Hid (Ow w3 wr 89 1 gP (.slice A1 k c1) gs) ∧ Hid (Th0 w3 wr tvs gs)) (fun _ i _ => nt - (intOf i).toNat)
    case atStart => exact ⟨0, none, 0, [], Nat.zero_le _, rfl, rfl, hid rfl, hid (Ow.nil _ _ _ _), hid ⟨by simp, by simp, by simp, by simp⟩⟩
    case round =>
      obtain ⟨k, A1, c1, gs, hk, rfl, rfl, GL, HO, HT0⟩ := hrel
      by_cases hlt : k < nt
      · obtain ⟨ad, v, rfl, hv, cv⟩ := sl_at ((HT2.out.below BW3.out).below HO.out.below) hlt
        obtain ⟨calls, hcalls⟩ : ∃ calls, m.threads[k]? = some calls := ⟨_, List.getElem?_eq_getElem (show k < m.threads.length by rw [HNT.out]; exact hlt)⟩
        obtain ⟨Aq, nq, cq, hv', _⟩ := HT3.out k _ hcalls
        rw [hv] at hv'; injection hv' with hv'; subst hv'
        clear hcalls
        have HV := hid (show tvs[gs.length]? = some (.slice Aq nq cq) by rw [GL.out]; exact hv)
        have i2 : (k : Int) < (nt : Int) := by omega
        obtain ⟨y, hy⟩ : ∃ y, gs ++ [wr.heap.size] = y := ⟨_, rfl⟩
        have HYL := hid (show y.length = k + 1 by rw [← hy, List.length_append, GL.out]; rfl)
        have HY := hid hy
        clear hv hy
        go_wp2_with (at_builtin; refine wpList_appY elmT gP_one rfl (.tmp 38) (.tmp 42) rfl (.slice A1 k c1) gs rfl ((HO.out.alloc _).alloc _) [wr.heap.size] y HY rfl (Sl.fresh' _ #[_] 89 1 1 _ (by simp) rfl) rfl (by rw [HYL.out]; simp only [maxLen]; omega) (by rw [HYL.out]; omega) ?_; intro A4 c4 w4 hc4 hc5 HN1 HG1 _; have HT4 := hid (HT0.out.snoc HO.out.below.size HV.out _ ((HO.out.alloc _).alloc _).own HG1.out); rw [HY.out] at HT4)
        go_roundw
        case rel => exact ⟨k + 1, A4, c4, y, by omega, by go_num, by rw [HYL.out], HYL, hid (by have h1 := HN1.out; rw [HYL.out] at h1; exact h1), HT4⟩
        case measure => simp [intOf]; omega
      · obtain rfl : k = nt := by omega
        have i2 : ¬ (k : Int) < (k : Int) := by omega
        go_wp2
        go_meet
        exact ⟨A1, c1, gs, rfl, GL.out, HO, HT0⟩
  case rest =>
    obtain ⟨A1, c1, gs, rfl, GL, HO, HT0⟩ := hcut
    obtain ⟨w4, hw4⟩ : ∃ w4, w4 = wc := ⟨_, rfl⟩
    subst hw4
    obtain ⟨G, hG⟩ : ∃ G, (fun j => gs.getD j 0) = G := ⟨_, rfl⟩
    obtain ⟨Cv, hCv⟩ : ∃ Cv, (fun j => tvs.getD j (.slice none 0 0)) = Cv := ⟨_, rfl⟩
    have P0 := PM.start (w0 := w) HT0.out BW3.out HO.out.below (by rw [HT1.out, HNT.out]) (by rw [GL, HNT.out]) HO.out.own (own_lower O3.out.own BW1.out.size |> fun h => own_below h HO.out.below)
    rw [hG, hCv, HNT.out] at P0
    have HCv := hid (show ∀ j calls, m.threads[j]? = some calls → ∃ A n c, Cv j = .slice A n c ∧ CallsAt w A n nc calls by
      intro j calls hj
      obtain ⟨A, n, c, h1, h2⟩ := HT3.out j calls hj
      exact ⟨A, n, c, by rw [← hCv]; show tvs.getD j _ = _; rw [List.getD_eq_getElem?_getD, h1]; rfl, h2⟩)
    have PB := hid (show Blk w4 mb 29 #[.slice Aw nw cw, .slice Ac nc cc, .slice At nt ct] from (((BL.out.below' B1.out).below' O3.out.below).below' HO.out.below))
    have R0 := hid (RS.mk P0 PB.out (bgo BW3.out HO.out.below))
    clear P0 hG hCv f0 f1 f2
    have HNS := hid HL.out.leni
    go_wp2
    go_loopw [11, 47] (fun v i wr => ∃ (k : Nat) (Hf : Nat → Nat) (Tv : Nat → Value) (es : List (Ev × SV)), k ≤ ns ∧ i = .int .i64 k ∧ Hid (RS w mb #[.slice Aw nw cw, .slice Ac nc cc, .slice At nt ct] wr m G Hf Cv Tv wv (.slice A1 nt c1) nt es v (prun m 0 (l.take k) (pinit m)))) (fun _ i _ => ns - (intOf i).toNat)
    case atStart => exact ⟨0, _, _, _, Nat.zero_le _, rfl, R0⟩
    case round =>
      obtain ⟨k, Hf, Tv, es, hk, rfl, HR⟩ := hrel
      by_cases hlt : k < ns
      · obtain ⟨ad, x, rfl, hx, cx⟩ := (HL.out.below HR.out.below).ati hlt
        rw [List.getElem?_map] at hx
        obtain ⟨n, hn, rfl⟩ := Option.map_eq_some_iff.1 hx
        have hnl := HLT.out n (List.mem_of_getElem? hn)
        have HN := hid hn
        clear hx hn
        have HSN := hid (show prun m 0 (l.take (k + 1)) (pinit m) = pstep m k n (prun m 0 (l.take k) (pinit m)) by
          rw [take_next HN.out, prun_snoc, List.length_take, Nat.zero_add, show min k l.length = k by have := HNS.out; rw [List.length_map] at this; omega])
        have hEL : es.length ≤ 2 * k := by
          rw [HR.out.pm.evlen]
          have h1 := prun_most m (l.take k) 0 (pinit m)
          rw [List.length_take] at h1
          have h2 : (pinit m).evs.length = 0 := rfl
          omega
        have hinv := prun_inv m (l.take k) 0 (pinit m) (pinit_inv m)
        have hnxt := prun_next m (l.take k) 0 0 (pinit m) (pinit_next m)
        rw [List.length_take] at hnxt
        generalize hs : prun m 0 (l.take k) (pinit m) = s at *
        clear hs
        obtain ⟨p, hp⟩ : ∃ p, s.ths[n]? = some p := ⟨_, List.getElem?_eq_getElem (by rw [HR.out.pm.len]; exact hnl)⟩
        obtain ⟨calls, hcalls⟩ : ∃ calls, m.threads[n]? = some calls := ⟨_, List.getElem?_eq_getElem (show n < m.threads.length by rw [HNT.out]; exact hnl)⟩
        obtain ⟨Aq, q, cq, hcv, hca⟩ := HCv.out n calls hcalls
        obtain ⟨hgB, hgb⟩ := HR.out.pm.ths n p hp
        rw [hcv] at hgb
        have HGB := hid hgb; have HP := hid hp; have HCA := hid hca; have HCAL := hid hcalls; have HCVN := hid hcv
        clear hgb hp hca hcalls hcv
        obtain ⟨pb, hpb, cpv⟩ : ∃ pb, A1 = some ⟨pb, 0, none⟩ ∧ wr.cell? ⟨pb, n, none⟩ = some (.pointer (some ⟨G n, 0, none⟩)) := by
          rcases HR.out.pm.prow.2 with ⟨_, h0⟩ | ⟨g', cap, cur, hv, _, hh, h1, _, h3, h4⟩
          · omega
          · injection hv with e1 e2 e3
            refine ⟨g', e1, ?_⟩
            rw [cell_of_row wr g' n cur _ _ hh, ← Array.getElem?_toList]
            have h5 : (cur.toList.take (nt * 1))[n]? = some (.pointer (some ⟨G n, 0, none⟩)) := by
              rw [h4, List.getElem?_map, List.getElem?_range hnl]; rfl
            rw [List.getElem?_take, if_pos (by omega)] at h5
            exact h5
        subst hpb
        have i2 : (k : Int) < (ns : Int) := by omega
        have i3 : (n : Int) < (nt : Int) := by omega
        have g0 : wr.cell? ⟨G n, 0, none⟩ = some (.slice Aq q cq) := HGB.out.cell 0
        have g1 : wr.cell? ⟨G n, 1, none⟩ = some (.int .i64 (p.next : Int)) := HGB.out.cell 1
        have g2 : wr.cell? ⟨G n, 2, none⟩ = some (.pointer ((curH p (Hf n)).map fun h => ⟨h, 0, none⟩)) := HGB.out.cell 2
        obtain ⟨ev, hev⟩ : ∃ ev, ev = u11 := ⟨_, rfl⟩
        subst hev
        obtain ⟨Ea, Ec, hEv, hEc, hEc2⟩ := own_form HR.out.pm.erow
        subst hEv
        obtain ⟨ne, hne⟩ : ∃ ne, es.length = ne := ⟨_, rfl⟩
        rw [hne] at HR hEc hEL ⊢
        have HNE := hid hne
        clear hne
        go_upto_region 19 with fail
        go_cut [12, 13, 14, 72] (fun v12 v13 v14 v wx => v12 = .int .i64 k ∧ v13 = .int .i64 n ∧ v14 = .pointer (some ⟨G n, 0, none⟩) ∧ (∃ bq : Bool, v = .bool bq ∧ bq = (p.cur.isNone && decide (p.next < q))) ∧ wx = wr.drew)
        case first =>
          cases hcur : p.cur with
          | some y =>
            have g2' : wr.cell? ⟨G n, 2, none⟩ = some (.pointer (some ⟨Hf n, 0, none⟩)) := by rw [g2, curH, hcur]; rfl
            clear g2
            go_region
            all_goals
              go_wp2_with fail
              go_meet
              exact ⟨rfl, rfl, rfl, ⟨_, rfl, by simp [hcur]⟩, rfl⟩
          | none =>
            have g2' : wr.cell? ⟨G n, 2, none⟩ = some (.pointer none) := by rw [g2, curH, hcur]; rfl
            clear g2
            by_cases hq : p.next < q
            · have i5 : (p.next : Int) < (q : Int) := by omega
              go_region
              all_goals
                go_wp2_with fail
                go_meet
                exact ⟨rfl, rfl, rfl, ⟨_, rfl, by simp [hcur, hq]⟩, rfl⟩
            · have i5 : ¬ (p.next : Int) < (q : Int) := by omega
              go_region
              all_goals
                go_wp2_with fail
                go_meet
                exact ⟨rfl, rfl, rfl, ⟨_, rfl, by simp [hcur, hq]⟩, rfl⟩
        case rest =>
          obtain ⟨rfl, rfl, rfl, ⟨bq, rfl, hbq⟩, rfl⟩ := hcut
          have HBQ := hid hbq
          clear hbq
          go_upto_if 72 with fail
          go_cut [11, 12, 13, 14] (fun v v12 v13 v14 wx => v12 = .int .i64 k ∧ v13 = .int .i64 n ∧ v14 = .pointer (some ⟨G n, 0, none⟩) ∧ ∃ (Hf' : Nat → Nat) (Tv' : Nat → Value) (es' : List (Ev × SV)), Hid (RS w mb #[.slice Aw nw cw, .slice Ac nc cc, .slice At nt ct] wx m G Hf' Cv Tv' wv (.slice (some ⟨pb, 0, none⟩) nt c1) nt es' v (sbeg m k n calls p s)))
          case first =>
            have hsame : ∀ (hp : pbeg m k n calls p = (p, [])), Hid (RS w mb #[.slice Aw nw cw, .slice Ac nc cc, .slice At nt ct] wr.drew m G Hf Cv Tv wv (.slice (some ⟨pb, 0, none⟩) nt c1) nt es (.slice Ea ne Ec) (sbeg m k n calls p s)) := fun hp => by
              rw [sbeg_same m k n calls p s HP.out hp]; exact hid HR.out.drew
            have HSAME := hid hsame
            clear hsame
            cases hcur : p.cur with
            | some y =>
              have hb2 : bq = false := by rw [HBQ.out, hcur]; rfl
              rw [hb2]
              clear HBQ hb2
              go_wp2
              go_meet
              exact ⟨rfl, rfl, rfl, Hf, Tv, es, HSAME.out (by unfold pbeg; rw [hcur])⟩
            | none =>
              by_cases hq : p.next < q
              · have hb2 : bq = true := by rw [HBQ.out, hcur]; simp [hq]
                rw [hb2]
                clear HBQ hb2
                obtain ⟨adq, c0, A', n', c', rfl, hc0, a1, a2, a3, d1, d2⟩ := (HCA.out.below HR.out.below).at_ hq
                obtain ⟨cvs, y1, y2, y3⟩ := HM.out.codes
                obtain ⟨code, hcode⟩ : ∃ code, m.codes[c0.code]? = some code := ⟨_, List.getElem?_eq_getElem (show c0.code < m.codes.length by rw [HM.out.lc]; exact a1)⟩
                obtain ⟨Ao, no, co, z1, z2, z3, z4, z5⟩ := y3 _ code hcode
                obtain ⟨ado, vo, e1, e2, e3⟩ := sl_at (y2.below HR.out.below) (show c0.code < nc from a1)
                rw [z1] at e2; injection e2 with e2; subst e2; subst e1
                have f1 : wr.cell? ⟨mb, 1, none⟩ = some (.slice (some ado) nc cc) := HR.out.blk.cell 1
                have i5 : (p.next : Int) < (q : Int) := by omega
                have i6 : (c0.code : Int) < (nc : Int) := by omega
                have HC0 := hid hc0; have HCODE := hid hcode; have HA3 := hid a3
                have HZ3 := hid z3; have HZ4 := hid z4; have HZ5 := hid z5
                have HCUR := hid hcur
                clear hc0 hcode a3 z1 z3 z4 z5 y1 y2 y3 hcur
                have g2' : wr.cell? ⟨G n, 2, none⟩ = some (.pointer none) := by rw [g2, curH, HCUR.out]; rfl
                clear g2
                have ld := World.block_lt_of_cell? wr _ d1
                have le := World.block_lt_of_cell? wr _ e3
                have lg := HGB.out.lt
                have lm := HR.out.blk.lt
                go_wp2_with fail
                go_region
                have HCO := hid (show Sl wr 5 Ao no (code.flatMap gO) from HZ5.out.below HR.out.below)
                go_upto_region 21 with fail
                go_cut [11, 12, 13, 14] (fun v11 v12 v13 v14 wx => v11 = .slice Ea ne Ec ∧ v12 = .int .i64 k ∧ v13 = .int .i64 n ∧ v14 = .pointer (some ⟨G n, 0, none⟩) ∧ ∃ (h : Nat) (wB : World), wx = wB.setCell ⟨G n, 2, none⟩ (.pointer (some ⟨h, 0, none⟩)) ∧ Hid (Below wr.heap.size wr wB) ∧ Hid (wr.heap.size ≤ h) ∧ Hid (Tb wB h (.slice Ao no co) (vbegin no c0.args).regs 0 (.slice none 0 0) 0 (vbegin no c0.args).over))
                case first =>
                  go_region_with (go_at_call 60; (refine (vm_begin (.slice Ao no co) Ao A' no co n' c' c0.args (World.drew (World.drew (World.drew (wr.alloc (.cells #[.int .i64 (c0.code : Int), .slice A' n' c'] 35))))) rfl (by omega) (HA3.out.below (bnew (bnil wr) _).drew.drew.drew)).mono ?_; rintro e wB ⟨rfl, tB, bB, lB⟩; have BB : Below wr.heap.size wr wB := bgo (bnew (bnil wr) _).drew.drew.drew bB; have k1 := cell_below BB f1; have k2 := cell_below BB e3; have k3 := cell_below BB g2'; have k4 : wB.frozen? ⟨G n, 2, none⟩ = false := (HGB.out.below' BB).frozen 2; have k5 : wB.cell? ⟨wr.heap.size, 0, none⟩ = some (.int .i64 (c0.code : Int)) := cell_below bB ((Blk.new wr 35 #[.int .i64 (c0.code : Int), .slice A' n' c']).cell 0); have k6 : wB.cell? ⟨wr.heap.size, 1, none⟩ = some (.slice A' n' c') := cell_below bB ((Blk.new wr 35 #[.int .i64 (c0.code : Int), .slice A' n' c']).cell 1); rw [show (World.drew (World.drew (World.drew (wr.alloc (.cells #[.int .i64 (c0.code : Int), .slice A' n' c'] 35))))).heap.size = wr.heap.size + 1 by simp] at tB; have TBH := hid tB; have BBH := hid BB; clear tB bB lB BB))
                  all_goals
                    go_wp2_with fail
                    go_meet
                    exact ⟨rfl, rfl, rfl, rfl, _, _, rfl, BBH, hid (Nat.le_succ _), TBH⟩
                case rest =>
                  obtain ⟨rfl, rfl, rfl, rfl, h, wB, rfl, BB, HH, TB⟩ := hcut
                  have k7 : wB.cell? ⟨G n, 1, none⟩ = some (.int .i64 (p.next : Int)) := cell_below BB.out g1
                  have hnext := HCA.out.most
                  obtain ⟨y, hy⟩ : ∃ y, es ++ [evB k n p.next] = y := ⟨_, rfl⟩
                  have HYL := hid (show y.length = ne + 1 by rw [← hy, List.length_append, HNE.out]; rfl)
                  have HYE := hid hy
                  have HAL : c0.args.length ≤ 24 := by have := HA3.out.leni; omega
                  obtain ⟨s5, er5, nx5⟩ := RS.begin2 HR.out k co HP.out HCUR.out HC0.out HCODE.out HZ3.out (by omega) HZ4.out HZ5.out HAL BB.out HH.out TB.out hy
                  have HS5 := hid s5; have HER5 := hid er5; have HNX5 := hid nx5
                  clear hy HAL s5 er5 nx5
                  go_wp2_with (at_builtin; refine wpList_appB elmE gE_one rfl (.tmp 95) (.tmp 103) rfl (.slice Ea ne Ec) es rfl (own_below HER5.out (bnew (bnil _) _)) [evB k n p.next] y HYE rfl (Sl.fresh' _ #[_, _, _, _, _, _] 68 6 1 _ (by simp) rfl) rfl (by rw [HYL.out]; simp only [maxLen]; omega) (by rw [HYL.out]; omega) (Nat.le_trans HS5.out (by simp)) ?_; intro E6 c6 w6 hc6 hc7 HN6 HG6; obtain ⟨m1, m2, HRB⟩ := HNX5.out _ w6 _ HG6.out HN6.out)
                  go_meet
                  exact ⟨rfl, rfl, rfl, _, _, _, HRB⟩
              · have hb2 : bq = false := by rw [HBQ.out, hcur]; simp [hq]
                rw [hb2]
                clear HBQ hb2
                go_wp2
                go_meet
                exact ⟨rfl, rfl, rfl, Hf, Tv, es, HSAME.out (by unfold pbeg; rw [hcur]; simp only; rw [List.getElem?_eq_none (by rw [HCA.out.len]; omega)])⟩
          case rest =>
            obtain ⟨rfl, rfl, rfl, Hf2, Tv2, es2, HR2⟩ := hcut
            have hp2 := sbeg_get m k n calls p s HP.out
            have hin2 := pbeg_inv m k n calls p (hinv n p HP.out)
            have hnb := pbeg_next m k n _ calls p (hnxt n p HP.out)
            have HNO := hid (pstep_none m k n calls p s HP.out HCAL.out)
            have HSO := hid (fun ci t code => pstep_some m k n ci t code calls p s HP.out HCAL.out)
            have he2 : es2.length ≤ ne + 1 := by
              rw [HR2.out.pm.evlen]
              have h1 := sbeg_evs m k n calls p s
              have h2 := HR.out.pm.evlen
              have h3 := HNE.out
              omega
            generalize sbeg m k n calls p s = sB at *
            generalize (pbeg m k n calls p).1 = p2 at *
            have HP2 := hid hp2
            clear hp2
            obtain ⟨ev2, hev2⟩ : ∃ ev2, ev2 = u11 := ⟨_, rfl⟩
            subst hev2
            obtain ⟨E2, c2, hE2, hEc2', hEc3'⟩ := own_form HR2.out.pm.erow
            subst hE2
            obtain ⟨ne2, hne2⟩ : ∃ ne2, es2.length = ne2 := ⟨_, rfl⟩
            rw [hne2] at HR2 hEc2' he2 ⊢
            have HNE2 := hid hne2
            clear hne2 g0 g1 g2
            have HG2 := hid (HR2.out.pm.ths n p2 HP2.out).2
            have q2 : wc.cell? ⟨G n, 2, none⟩ = some (.pointer ((curH p2 (Hf2 n)).map fun h => ⟨h, 0, none⟩)) := HG2.out.cell 2
            have q1 : wc.cell? ⟨G n, 1, none⟩ = some (.int .i64 (p2.next : Int)) := HG2.out.cell 1
            cases hcur2 : p2.cur with
            | none =>
              have q2' : wc.cell? ⟨G n, 2, none⟩ = some (.pointer none) := by rw [q2, curH, hcur2]; rfl
              clear q2
              have HE := hid (HNO.out hcur2)
              clear hcur2
              go_wp2
              go_roundw
              case rel => exact ⟨k + 1, Hf2, Tv2, es2, by omega, by go_num, by rw [HSN.out, HE.out]; exact HR2⟩
              case measure => simp [intOf]; omega
            | some x =>
              obtain ⟨ci, t⟩ := x
              have q2' : wc.cell? ⟨G n, 2, none⟩ = some (.pointer (some ⟨Hf2 n, 0, none⟩)) := by rw [q2, curH, hcur2]; rfl
              clear q2
              obtain ⟨hBh, Ao, no, co, code, z1, z2, z3, z4, z5, z6, z7⟩ := HR2.out.pm.cur n p2 ci t HP2.out hcur2
              have HE := hid (HSO.out ci t code hcur2 z1)
              have HTH := hid z7
              have hnx : 1 ≤ p2.next := hin2 (by rw [hcur2]; rfl)
              have HCUR2 := hid hcur2; have HCODE := hid z1; have HLEN := hid z2; have HSH := hid z4; have HSL := hid z5; have HVI := hid z6
              clear z1 z2 z4 z5 z6 z7 hcur2
              have HVI2 := hid (VI.step (ws := sB.words) (fun o ho => by rw [HLEN.out]; exact (HSH.out o ho).ok) HVI.out)
              go_wp2_with fail
              refine (vm_step w.heap.size (Hf2 n) no co wc Ao (Tv2 n) wv t sB.words code z3 (fun o ho => (HSH.out o ho).ok) HVI.out HR2.out.below.size (HR2.out.pm.twords n) (HSL.out.below HR2.out.below) HTH.out HR2.out.pm.words).mono ?_
              rintro e w5 ⟨rfl, hsp⟩
              obtain ⟨tv5, hra⟩ := RS.act HR2.out HP2.out HCUR2.out HCODE.out HLEN.out z3 HSH.out HSL.out hBh HTH.out hsp HVI2.out
              have HRA := hid hra
              clear hsp hra
              obtain ⟨⟨t', ws'⟩, hvs⟩ : ∃ r, vstep code t sB.words = r := ⟨_, rfl⟩
              rw [hvs] at HRA HE
              simp only at HRA HE
              clear hvs HVI2 HVI
              obtain ⟨S', hS'⟩ : ∃ S', ({ ths := sB.ths.set n ⟨p2.next, some (ci, t')⟩, words := ws', evs := sB.evs } : PS) = S' := ⟨_, rfl⟩
              have hn5 : S'.ths[n]? = some ⟨p2.next, some (ci, t')⟩ := by rw [← hS']; exact List.getElem?_set_self (List.getElem?_eq_some_iff.1 HP2.out).1
              have HSW := hid (show S'.words = ws' ∧ S'.evs = sB.evs ∧ S'.ths.set n ⟨p2.next, none⟩ = sB.ths.set n ⟨p2.next, none⟩ by rw [← hS']; exact ⟨rfl, rfl, by simp only [List.set_set]⟩)
              have HS' := hid hS'
              rw [hS'] at HRA
              clear hS'
              have HG5 := hid (HRA.out.pm.ths n _ hn5).2
              obtain ⟨_, _, _, _, _, _, _, _, _, _, _, hth5⟩ := HRA.out.pm.cur n _ ci t' hn5 rfl
              rw [upd_same] at hth5
              have HN5 := hid hn5
              have v1 : w5.cell? ⟨G n, 1, none⟩ = some (.int .i64 (p2.next : Int)) := HG5.out.cell 1
              have v2 : w5.cell? ⟨G n, 2, none⟩ = some (.pointer (some ⟨Hf2 n, 0, none⟩)) := by have := HG5.out.cell 2; rw [curH_some rfl, upd_same] at this; exact this
              obtain ⟨v3, _⟩ := hth5.blk.cov hth5.len
              obtain ⟨v4, _⟩ := hth5.blk.cerr hth5.len
              obtain ⟨v5, _⟩ := hth5.blk.ctv hth5.len
              have htl := own_form hth5.told
              have HB5 := hid hth5.blk
              clear hn5 hth5 q1 q2'
              cases hov : t'.over
              · rw [hov] at v3
                have HE' := hid (show pstep m k n s = S' by rw [HE.out, hov, ← HS'.out]; rfl)
                clear HE htl
                go_wp2
                go_roundw
                case rel => exact ⟨k + 1, _, _, es2, by omega, by go_num, by rw [HSN.out, HE'.out]; exact HRA⟩
                case measure => simp [intOf]; omega
              · rw [hov] at v3
                obtain ⟨Ua, Uc, hU, _, _⟩ := htl
                rw [upd_same] at hU
                subst hU
                rw [upd_same] at v5
                obtain ⟨tn, htn⟩ : ∃ tn, t'.told.length = tn := ⟨_, rfl⟩
                rw [htn] at v5 HRA
                obtain ⟨y, hy⟩ : ∃ y, es2 ++ [((⟨k, n, p2.next - 1, true, t'.err, t'.told⟩ : Ev), (⟨Ua, tn, Uc⟩ : SV))] = y := ⟨_, rfl⟩
                have HYL := hid (show y.length = ne2 + 1 by rw [← hy, List.length_append, HNE2.out]; rfl)
                have HYE := hid hy
                have HF := hid (RS.fin2 HRA.out.drew k HN5.out rfl (by rw [upd_same]) hy)
                have HE' := hid (show pstep m k n s = { ths := S'.ths.set n ⟨p2.next, none⟩, words := S'.words, evs := S'.evs ++ [⟨k, n, p2.next - 1, true, t'.err, t'.told⟩] } by rw [HE.out, hov, HSW.out.1, HSW.out.2.1, HSW.out.2.2]; rfl)
                clear hy HE
                obtain ⟨pn, hpn⟩ : ∃ pn, p2.next - 1 = pn := ⟨_, rfl⟩
                have epn : (p2.next : Int) - 1 = (pn : Int) := by omega
                have hpnb : (pn : Int) ≤ 10000 := by omega
                rw [hpn] at HYE HF HE'
                clear hpn hin2 hnx hnb
                have HER := hid HRA.out.pm.erow
                have HBS := hid HRA.out.below.size
                go_wp2_with fail
                have hwr : IntKind.i64.wrap (pn : Int) = (pn : Int) := IntWalk.i64_in _ (by omega)
                have HGR := hid (fun (o : Obj) (w6 : World) (hG : (w5.drew.alloc o).grownBy w6 (Value.slice E2 ne2 c2).ownBlock) => grown4 (HER.out) (HG5.out) (HB5.out) (by decide) (by decide) o hG v1 v2 v4 v5)
                go_region_held3 (fun w' => w'.cell? ⟨G n, 1, none⟩ = some (.int .i64 (p2.next : Int)) ∧ w'.cell? ⟨G n, 2, none⟩ = some (.pointer (some ⟨Hf2 n, 0, none⟩)) ∧ w'.cell? ⟨Hf2 n, 27, none⟩ = some (.int .i64 (t'.err : Int)) ∧ w'.cell? ⟨Hf2 n, 26, none⟩ = some (.slice Ua tn Uc))
                  ((first | assumption | exact ⟨v1, v2, v4, v5⟩ | (refine sees4c ?_ v1 v2 v4 v5; (repeat (first | exact bnil _ | refine Below.drew ?_ | refine bnew ?_ _)))))
                  (first
                    | (refine step_appB elmE gE_one rfl (.tmp 130) (.tmp 153) rfl (.slice E2 ne2 c2) es2 rfl (own_below HER.out (bnew (bnil _) _).drew) [((⟨k, n, pn, true, t'.err, t'.told⟩ : Ev), (⟨Ua, tn, Uc⟩ : SV))] y HYE rfl (Sl.drew (Sl.fresh' _ #[_, _, _, _, _, _] 68 6 1 _ rfl rfl)) rfl (by rw [HYL.out]; simp only [maxLen]; omega) (by rw [HYL.out]; omega) (Nat.le_trans HBS.out (bnew (bnil _) _).drew.size) ?_; intro E6 c6 w6 hc6 hc7 HN6 HG6; have HZ6 := HGR.out _ w6 HG6.out; have HRFX := hid (HF.out _ w6 _ HG6.out HN6.out)))
                all_goals
                  obtain ⟨x1, x2, HRF⟩ := HRFX.out
                  clear HZ6
                  go_wp2
                  go_roundw
                  case rel => exact ⟨k + 1, _, _, y, by omega, by go_num, by rw [HSN.out, HE'.out]; exact HRF⟩
                  case measure => simp [intOf]; omega
      · obtain rfl : k = ns := by omega
        have E := hid (show l.take k = l from List.take_of_length_le (by have := HNS.out; rw [List.length_map] at this; omega))
        rw [E.out] at HR
        have i2 : ¬ (k : Int) < (k : Int) := by omega
        go_wp2
        refine bodyPost_ret (v := .tuple #[_, wv, .int .i64 0]) (by simp [results, Tryd.results30, go_sem]; rfl) rfl ?_
        refine (show PlayPost w m l _ _ from ⟨_, wv, es, rfl, HR.out.pm.erow, HR.out.pm.evs, fun x hx => (HR.out.pm.told x hx).1, HR.out.pm.words, HR.out.below⟩)
end Go.Proofs.YtabmkjokeeakdaaDoor
