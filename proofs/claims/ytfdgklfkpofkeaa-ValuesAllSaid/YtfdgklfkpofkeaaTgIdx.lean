/-
  tags.index: its walk.
-/
import Derived.Test.YtfdgklfkpofkeaaTgPost
namespace Go.Proofs.Ytfdgklfkpofkeaa
open Go.RowKit Go.Maps
set_option linter.unusedVariables false

theorem castL_len (l : List Nat) : (castL l).length = l.length := by simp [castL]
theorem step_appN9 {P : Program} {w : World} {t e : TypeId} {sz bytes : Nat} (E : Elm P t e sz bytes) {α : Type} {g : α → List Value} (hg : ∀ x, ∀ u ∈ g x, u.oneCell' = true) {ops : Array Oper} {o : Oper} {a : Act} {K : Act → World → Prop} {Q : Exit → Act → World → Prop} {D : Prop} (hw : Region.wanted o (yielded ops a.tmps) = true) (s x : Operand)
    (ho : o.op = .call { callee := .builtin .append, args := #[s, x], argTypes := #[t, t] })
    {w0 : World} (v : Value) (l : List α) (hs : a.eval s = v) (hown : Ow w0 w e sz g v l)
    {A : Option Addr} {n c : Nat} (m y : List α) (hy : l ++ m = y) {q : Nat} (hq : y.length = q) (hx : a.eval x = .slice A n c) (hr : Sl w sz A n (m.flatMap g)) (hn : m.length = n)
    (h63 : y.length ≤ maxLen) (hbytes : y.length * bytes ≤ 140737488355328)
    (h : ∀ A' c' w', q ≤ c' → c' ≤ maxLen → Hid (Ow w0 w' e sz g (.slice A' q c') y) → Hid (w.grownBy w' v.ownBlock) → Hid ((Value.slice A' q c').ownBlock = v.ownBlock ∨ (Value.slice A' q c').ownBlock = some w.heap.size) → K (a.put o.dst (.slice A' q c')) w') :
    if Region.wanted o (yielded ops a.tmps) = true then Oper.wp P o a w K Q else D := by
  rw [if_pos hw]
  subst hy
  subst hn
  subst hq
  have h63' := h63; have hbytes' := hbytes
  rw [List.length_append] at h63' hbytes'
  obtain ⟨i, z, hi, hz, hz1, hz2, hz3⟩ := E.ex
  refine wp_append_sl w s x t ho w0.heap.size e i z sz bytes E.ht hi hz hz1 hz2 hz3 E.pos v l.length (l.flatMap g) hs hown.own A m.length c (m.flatMap g) hx hr (flat_one g hg m) h63' hbytes' hown.below.size fun v' w' h1 h2 h3 => ?_
  rw [← List.flatMap_append, ← List.length_append] at h1
  obtain ⟨A', c', rfl, hc1, hc2⟩ := own_form h1
  exact h A' c' w' hc1 hc2 ⟨h1, below_app hown.below hown.own h2 hown.below.size⟩ h2 h3

theorem sl_blk9 {w : World} {g : Nat} {x : Int} (h : Blk w g 3 #[.int .i64 x]) : Sl w 1 (some ⟨g, 0, none⟩) 1 (List.flatMap gI [x]) :=
  ⟨rfl, fun _ => ⟨_, rfl, fun j u hu => by rw [ad_at, h.cell]; cases j with | zero => simpa using hu | succ j => simp at hu⟩⟩
/-- what the map holds is of tags that were met -/
def DomS (f : Lit → Option Value) (post : Nat × Nat → List Nat) : Prop := ∀ kl v, f kl = some v → ∃ t, TOk t ∧ keyOf Try.prog 43 (tagV t) = some kl ∧ post t ≠ []
theorem DomS.upd {f : Lit → Option Value} {post : Nat × Nat → List Nat} (h : DomS f post) {t : Nat × Nat} (ht : TOk t) {kl : Lit} (hk : keyOf Try.prog 43 (tagV t) = some kl) (v : Value) (i : Nat) : DomS (updV f kl v) (addP post t i) := by
  intro k2 v2 h2
  by_cases e : k2 = kl
  · subst e
    exact ⟨t, ht, hk, by unfold addP; rw [if_pos rfl]; simp⟩
  · rw [updV_other e] at h2
    obtain ⟨u, h3, h4, h5⟩ := h k2 v2 h2
    refine ⟨u, h3, h4, ?_⟩
    unfold addP
    split
    · simp
    · exact h5
/-- the index in memory, while it grows -/
structure IdxS (W0 w : World) (mb N : Nat) (ns : List Nat) (i : Nat) (ts : List (Nat × Nat)) (post : Nat × Nat → List Nat) (f : Lit → Option Value) (sv : Nat × Nat → Value) : Prop where
  map : MapV w Try.prog 43 mb N f
  get : GetS f sv
  own : OwnS W0 w post sv
  inv : PInv ns i ts post
  ge : W0.heap.size ≤ mb
  len : ∀ t, (post t).length ≤ N
  dom : DomS f post
theorem IdxS.below {W0 w w' : World} {mb N : Nat} {ns : List Nat} {i : Nat} {ts : List (Nat × Nat)} {post : Nat × Nat → List Nat} {f : Lit → Option Value} {sv : Nat × Nat → Value} (h : IdxS W0 w mb N ns i ts post f sv) (hb : Below w.heap.size w w') : IdxS W0 w' mb N ns i ts post f sv :=
  ⟨h.map.below hb, h.get, h.own.below hb, h.inv, h.ge, h.len, h.dom⟩
theorem addP_len {post : Nat × Nat → List Nat} {N : Nat} (h : ∀ t, (post t).length ≤ N) (t : Nat × Nat) (i : Nat) : ∀ u, (addP post t i u).length ≤ N + 1 := by
  intro u; unfold addP
  split
  · rw [List.length_append]; have := h t; simp; omega
  · have := h u; omega
/-- a search of the index: for each tag the series that have it -/
def IdxAt (w : World) (mb : Nat) (ns : List Nat) : Prop := ∃ (N : Nat) (f : Lit → Option Value), MapV w Try.prog 43 mb N f ∧ ∀ u, TOk u → ∀ kl, keyOf Try.prog 43 (tagV u) = some kl →
  ∃ A n c, (f kl).getD (.slice none 0 0) = .slice A n c ∧ Sl w 1 A n (ints (castL ((List.range ns.length).filter fun q => hasT (ns.getD q 0) u)))
theorem IdxAt.below {w w' : World} {mb : Nat} {ns : List Nat} (h : IdxAt w mb ns) (hb : Below w.heap.size w w') : IdxAt w' mb ns := by
  obtain ⟨N, f, h1, h2⟩ := h
  exact ⟨N, f, h1.below hb, fun u hu kl hk => by obtain ⟨A, n, c, a, b⟩ := h2 u hu kl hk; exact ⟨A, n, c, a, b.below hb⟩⟩
/-- the same, and what the map holds is of tags that some series has -/
def IdxAt2 (w : World) (mb : Nat) (ns : List Nat) : Prop := ∃ (N : Nat) (f : Lit → Option Value), MapV w Try.prog 43 mb N f ∧ (∀ u, TOk u → ∀ kl, keyOf Try.prog 43 (tagV u) = some kl →
  ∃ A n c, (f kl).getD (.slice none 0 0) = .slice A n c ∧ Sl w 1 A n (ints (castL ((List.range ns.length).filter fun q => hasT (ns.getD q 0) u)))) ∧
  (∀ kl v, f kl = some v → ∃ t, TOk t ∧ keyOf Try.prog 43 (tagV t) = some kl ∧ ((List.range ns.length).filter fun q => hasT (ns.getD q 0) t) ≠ []) ∧ N ≤ 30000
theorem IdxAt2.one {w : World} {mb : Nat} {ns : List Nat} (h : IdxAt2 w mb ns) : IdxAt w mb ns := by
  obtain ⟨N, f, h1, h2, _⟩ := h
  exact ⟨N, f, h1, h2⟩
set_option maxRecDepth 100000 in
set_option maxHeartbeats 16000000 in
theorem tags_index2 (A : Option Addr) (n c : Nat) (ns : List Nat) (w : World) (h : SerAt w A n ns) :
    Calls Try.prog 31 #[.slice A n c] w fun e w' => ∃ mb, e = .returned (.map (some mb)) ∧ IdxAt2 w' mb ns ∧ Below w.heap.size w w' ∧ w.heap.size ≤ mb := by
  have H := hid h
  have hn30 := h.most
  clear h
  have hmm := @run_makeMap Try.prog
  obtain ⟨mb, hmb⟩ : ∃ mb, w.heap.size = mb := ⟨_, rfl⟩
  obtain ⟨W1, hW1⟩ : ∃ W1, w.alloc (.map #[] 0) = W1 := ⟨_, rfl⟩
  have BW := hid (show Below w.heap.size w W1 by rw [← hW1]; exact bnew (bnil w) _)
  have HI0 := hid (show IdxS w W1 mb 0 ns 0 [] (fun _ => []) (fun _ => none) (fun _ => .slice none 0 0) from by
    rw [← hW1, ← hmb]
    exact ⟨MapV.made w _ _, fun _ _ _ _ => rfl, ⟨fun _ => Ow.nil' (bnew (bnil w) _) _ _ _, fun _ _ _ _ h => by simp [Value.ownBlock] at h⟩, fun u hu => rfl, Nat.le_refl _, fun _ => by simp, fun kl v h => by cases h⟩)
  have HW1 := hid hW1
  have HMB := hid hmb
  clear hW1 hmb
  go_enter Try.func31, Try.ntmps31
  go_upto_block 0 with fail
  rw [HW1.out]
  simp only [HMB.out]
  go_wp2_with fail
  go_loopw [11] (fun q wr => ∃ (i N : Nat) (post : Nat × Nat → List Nat) (f : Lit → Option Value) (sv : Nat × Nat → Value), i ≤ n ∧ N ≤ 1000 * i ∧ q = .int .i64 i ∧ Hid (Below w.heap.size w wr ∧ IdxS w wr mb N ns i [] post f sv)) (fun q _ => n - (intOf q).toNat)
  case atStart => exact ⟨0, 0, _, _, _, Nat.zero_le _, Nat.le_refl _, rfl, hid ⟨BW.out, HI0.out⟩⟩
  case round =>
    obtain ⟨i, N0, post0, f0, sv0, hi, hN0, rfl, HR0⟩ := hrel
    by_cases hlt : i < n
    · obtain ⟨ad0, x, A', m, c', rfl, hx, hx64, cx0, hxm, hxs⟩ := H.out.at_ hlt
      have cx := cell_below HR0.out.1 cx0
      have i1 : (i : Int) < (n : Int) := by omega
      have hm3 : m ≤ 3 := by rw [← hxm]; exact (tags_ok x hx64).1
      have HXS := hid hxs
      have HXM := hid hxm
      have HX := hid hx
      clear hxs hxm hx
      obtain ⟨wo, hwo⟩ : ∃ wo, wo = wr := ⟨_, rfl⟩
      subst hwo
      go_wp2_with fail
      go_loopw [18] (fun q wr => ∃ (k N : Nat) (post : Nat × Nat → List Nat) (f : Lit → Option Value) (sv : Nat × Nat → Value), k ≤ m ∧ N ≤ N0 + 4 * k ∧ q = .int .i64 k ∧ Hid (Below w.heap.size w wr ∧ IdxS w wr mb N ns i ((tagsOf x).take k) post f sv)) (fun q _ => m - (intOf q).toNat)
      case atStart => exact ⟨0, N0, post0, f0, sv0, Nat.zero_le _, by omega, rfl, hid ⟨HR0.out.1, by rw [List.take_zero]; exact HR0.out.2⟩⟩
      case round =>
        obtain ⟨k, N, post, f, sv, hk, hN, rfl, HR⟩ := hrel
        by_cases hk2 : k < m
        · have hsl := hid (HXS.out.below HR.out.1)
          obtain ⟨ad, t, rfl, ht, c1, c2⟩ := tags_at hsl.out HXM.out hk2
          have htm := (tags_ok x hx64).2 t (List.mem_of_getElem? ht)
          have HTO := hid (show TOk t from ⟨htm.1, htm.2.2⟩)
          have HTZ := hid (show TOk (t.1, 0) from ⟨htm.1, show (0 : Nat) < 4 by decide⟩)
          obtain ⟨kt, hkt⟩ := keyT HTO.out
          obtain ⟨kz, hkz⟩ := keyT HTZ.out
          have HKT := hid hkt
          have HKZ := hid hkz
          have HTT := hid ht
          have i2 : (k : Int) < (m : Int) := by omega
          clear ht htm hkt hkz
          obtain ⟨W7, hW7⟩ : ∃ W7, wr.alloc (.cells #[.string (kS t.1), .string (vS t.2)] 43) = W7 := ⟨_, rfl⟩
          obtain ⟨X, hX⟩ : ∃ X, wr.heap.size = X := ⟨_, rfl⟩
          have HW7 := hid hW7
          have HXX := hid hX
          have B7 := hid (show Blk W7 X 43 #[.string (kS t.1), .string (vS t.2)] by rw [← hW7, ← hX]; exact Blk.new _ _ _)
          have Z7 := hid (show Below wr.heap.size wr W7 by rw [← hW7]; exact bnew (bnil wr) _)
          have HI7 := hid (HR.out.2.below Z7.out)
          obtain ⟨W9, hW9⟩ : ∃ W9, W7.alloc (.cells #[.int .i64 (i : Int)] 3) = W9 := ⟨_, rfl⟩
          have Z9 := hid (show Below W7.heap.size W7 W9 by rw [← hW9]; exact bnew (bnil W7) _)
          have HI9 := hid (HI7.out.below Z9.out)
          have HW9 := hid hW9
          have B9 := hid (B7.out.below' Z9.out)
          have HSF := hid (show Sl W9 1 (some ⟨W7.heap.size, 0, none⟩) 1 (List.flatMap gI [(i : Int)]) from by rw [← hW9]; exact Sl.fresh' W7 #[.int .i64 (i : Int)] 3 1 1 _ rfl rfl)
          obtain ⟨At, ct, hst, hct, hcm⟩ := (HI9.out.own.own t).form
          rw [castL_len] at hst hct
          have HST := hid hst
          have hlen := HI9.out.len t
          have x0 : W7.cell? ⟨X, 0, none⟩ = some (.string (kS t.1)) := B7.out.cell 0
          have x1 : W7.cell? ⟨X, 1, none⟩ = some (.string (vS t.2)) := B7.out.cell 1
          have hltm := HI7.out.map.lt
          have BF9 := hid (show Blk W9 W7.heap.size 3 #[.int .i64 (i : Int)] by rw [← hW9]; exact Blk.new _ _ _)
          have HSF := hid (fun (w10 : World) (hg : W9.grownBy w10 (some mb)) => show Sl w10 1 (some ⟨W7.heap.size, 0, none⟩) 1 (List.flatMap gI [(i : Int)]) from
            sl_blk9 ((hg.block _ BF9.out.lt (fun e => by injection e with e; omega)).trans BF9.out))
          have HOW := hid (fun (w10 : World) (hg : W9.grownBy w10 (some mb)) => HI9.out.own.map HI9.out.map hg HI9.out.ge)
          obtain ⟨y, hy⟩ : ∃ y, castL (post t) ++ [(i : Int)] = y := ⟨_, rfl⟩
          have HY := hid hy
          have HYL := hid (show y.length = (post t).length + 1 by rw [← hy, List.length_append, castL_len]; rfl)
          have HNE := hid (show some mb ≠ (Value.slice At (post t).length ct).ownBlock from fun e => ow_ne_map (HI9.out.own.own t) HI9.out.map (by rw [HST.out]; exact e.symm))
          have hN30 : N ≤ 100000 := by omega
          clear hW7 hX hW9 hst hy
          go_upto_region 8 with fail
          rw [HW7.out]
          simp only [HXX.out]
          clear c1 c2
          go_upto_region 9 with (first
            | (refine wpList_entV _ rfl (.tmp 22) (.tmp 23) 88 rfl 43 37 lawT Try.underlying88 zeroI mb N f rfl (by first | exact HI9.out.map | (rw [HW9.out]; exact HI9.out.map)) (by simp only [maxLen]; omega) _ kt rfl HKT.out (.slice At (post t).length ct) (by rw [HI9.out.get t HTO.out kt HKT.out]; exact HST.out) ?_; rw [HW9.out]; intro st w10 HE10 HG10)
            | (at_builtin; refine wpList_appY elmI gI_one rfl (.tmp 24) (.tmp 26) rfl (.slice At (post t).length ct) (castL (post t)) rfl (by have h := (HOW.out _ HG10.out).own t; rw [HST.out] at h; exact h) [(i : Int)] y HY rfl (HSF.out _ HG10.out) rfl (by rw [HYL.out]; simp only [maxLen]; omega) (by rw [HYL.out]; omega) ?_; intro A11 c11 w11 hc11 hd11 O11 G11 N11)
            | (refine wpList_entStoreV _ rfl (.tmp 22) (.tmp 29) (.tmp 28) 88 rfl 43 mb N st f kt rfl rfl (.slice A11 y.length c11) rfl (HE10.out.kept_ G11.out HNE.out) ?_; intro w12 HM12 HG12))
          have hE11 := HE10.out.kept_ G11.out HNE.out
          have HE11 := hid hE11
          have hO11 : OwnS w w11 (addP post t i) (updS sv t (.slice A11 y.length c11)) := (HOW.out _ HG10.out).app (by rw [← castL_app, HY.out]; exact O11.out) (by rw [HST.out]; exact G11.out) (by rw [HST.out]; exact N11.out)
          have hO12 : OwnS w w12 (addP post t i) (updS sv t (.slice A11 y.length c11)) := by
            obtain ⟨es1, cl1, hbe, _⟩ := hE11
            exact hO11.map' ⟨es1, cl1, hbe⟩ HG12.out HI9.out.ge
          have hXm : X ≠ mb := fun e => by
            have h1 := B7.out
            obtain ⟨es1, cl1, hb1⟩ := HI7.out.map.block
            unfold Blk at h1; rw [e, hb1] at h1; cases h1
          have hB10 := (HG10.out.block X B9.out.lt (fun e => by injection e with e; exact hXm e)).trans B9.out
          have hB11 : Blk w11 X 43 #[.string (kS t.1), .string (vS t.2)] := (G11.out.block X (Blk.lt (show Blk w10 X _ _ from hB10)) (fun e => own_ne_blk ((HOW.out _ HG10.out).own t).own (show Blk w10 X _ _ from hB10) (by decide) (by rw [HST.out]; exact e.symm))).trans hB10
          have hB12 : Blk w12 X 43 #[.string (kS t.1), .string (vS t.2)] := (HG12.out.block X hB11.lt (fun e => by injection e with e; exact hXm e)).trans hB11
          obtain ⟨post4, hp4⟩ : ∃ post4, addP post t i = post4 := ⟨_, rfl⟩
          obtain ⟨sv4, hs4⟩ : ∃ sv4, updS sv t (.slice A11 y.length c11) = sv4 := ⟨_, rfl⟩
          obtain ⟨f4, hf4⟩ : ∃ f4, updV f kt (.slice A11 y.length c11) = f4 := ⟨_, rfl⟩
          have hg4 := HI9.out.get.upd HTO.out HKT.out (.slice A11 y.length c11)
          have hM12 := HM12.out
          rw [hp4, hs4] at hO12
          rw [hs4, hf4] at hg4
          rw [hf4] at hM12
          have HO12 := hid hO12
          have HB12 := hid hB12
          have HM5 := hid hM12
          have HG4 := hid hg4
          have HP4 := hid hp4
          have HD4 := hid (show DomS f4 post4 by rw [← hp4, ← hf4]; exact HI9.out.dom.upd HTO.out HKT.out _ i)
          have hlen4 : ∀ u, (post4 u).length ≤ N + 1 := by rw [← hp4]; exact addP_len HI9.out.len t i
          have HL4 := hid hlen4
          have hlz := hlen4 (t.1, 0)
          obtain ⟨wA, hwA⟩ : ∃ wA, (w12.alloc (.cells #[.int .i64 (i : Int)] 3)).drew = wA := ⟨_, rfl⟩
          have ZA := hid (show Below w12.heap.size w12 wA by rw [← hwA]; exact (bnew (bnil w12) _).drew)
          have HHA := hid hwA
          have HMA := hid (hM12.below ZA.out)
          have HOA := hid (hO12.below ZA.out)
          have HBA := hid (hB12.below' ZA.out)
          have HSF2 := hid (show Sl wA 1 (some ⟨w12.heap.size, 0, none⟩) 1 (List.flatMap gI [(i : Int)]) from by rw [← hwA]; exact Sl.drew (Sl.fresh' w12 #[.int .i64 (i : Int)] 3 1 1 _ rfl rfl))
          obtain ⟨Az, cz, hsz, hcz, hczm⟩ := (HOA.out.own (t.1, 0)).form
          rw [castL_len] at hsz hcz
          have HSZ := hid hsz
          have HOZ := hid (show Ow w wA 3 1 gI (.slice Az (post4 (t.1, 0)).length cz) (castL (post4 (t.1, 0))) from by have h := HOA.out.own (t.1, 0); rw [hsz] at h; exact h)
          have HYZ := hid (castL_app (post4 (t.1, 0)) i)
          have HC9 := hid (fun w' (hb : Below w12.heap.size w12 w') => show w'.cell? ⟨X, 0, none⟩ = some (.string (kS t.1)) from (HB12.out.below' hb).cell 0)
          have HGB := hid (fun (w7 : World) (hg : wA.grownBy w7 (Value.slice Az (post4 (t.1, 0)).length cz).ownBlock) => show Blk w7 X 43 #[.string (kS t.1), .string (vS t.2)] from
            (hg.block X HBA.out.lt (fun e => own_ne_blk (HOA.out.own (t.1, 0)).own HBA.out (by decide) (by rw [HSZ.out]; exact e.symm))).trans HBA.out)
          have HGX := hid (fun (w7 : World) (hg : wA.grownBy w7 (Value.slice Az (post4 (t.1, 0)).length cz).ownBlock) => show Blk w7 X 43 #[.string (kS t.1), .string (vS t.2)] from HGB.out w7 hg)
          have HMG := hid (fun (w7 : World) (hg : wA.grownBy w7 (Value.slice Az (post4 (t.1, 0)).length cz).ownBlock) => show MapV w7 Try.prog 43 mb (N + 1) f4 from
            HMA.out.kept_ hg (fun e => ow_ne_map (HOA.out.own (t.1, 0)) HMA.out (by rw [HSZ.out]; exact e.symm)))
          have HXm := hid hXm
          have HGY := hid (fun (w7 w8 : World) (h : Blk w7 X 43 #[.string (kS t.1), .string (vS t.2)]) (hm : MapV w7 Try.prog 43 mb (N + 1) f4) (hg : w7.grownBy w8 (some mb)) => show Blk w8 X 43 #[.string (kS t.1), .string (vS t.2)] from
            (hg.block X h.lt (fun e => by injection e with e; exact HXm.out e)).trans h)
          have xa := HC9.out w12 (bnil w12)
          clear hE11 hO11 hO12 hXm hB10 hB11 hB12 hp4 hs4 hf4 hg4 hM12 hlen4 hwA hsz x0 x1
          refine wp_region_held_drew (S := (fun w' => w'.cell? ⟨X, 0, none⟩ = some (.string (kS t.1)))) (by kernel_rfl) ?_ (fun hHeld => ?_)
          · (try dsimp only); first | assumption | exact HC9.out _ (bnil _).drew | exact HC9.out _ (bnew (bnil _).drew _) | exact HX7.out.cell 0 | exact HX8.out.cell 0
          refine wpAnyH_take (i := 0) (oi := ⟨some 30, _, _, _, _, _⟩) (v := ?_) rfl (by kernel_rfl) (by kernel_rfl) (by kernel_rfl) (fun _ _ _ h => h) (Or.inl ⟨by rfl, ?_⟩) (by assumption) ?_
          rotate_left
          · intro w hSw; (try dsimp only at hSw); go_simp <;> with_reducible rfl
          try simp only [Act.put, List.setIfInBounds_toArray, List.set_cons_zero, List.set_cons_succ]
          refine wpAnyH_take (i := 1) (oi := ⟨some 31, _, _, _, _, _⟩) (v := ?_) rfl (by kernel_rfl) (by kernel_rfl) (by kernel_rfl) (fun _ _ _ h => h) (Or.inl ⟨by rfl, ?_⟩) (by assumption) ?_
          rotate_left
          · intro w hSw; (try dsimp only at hSw); go_simp <;> with_reducible rfl
          try simp only [Act.put, List.setIfInBounds_toArray, List.set_cons_zero, List.set_cons_succ]
          refine wpAnyH_take (i := 2) (oi := ⟨some 32, _, _, _, _, _⟩) (v := ?_) rfl (by kernel_rfl) (by kernel_rfl) (by kernel_rfl) (fun _ _ _ h => h) (Or.inl ⟨by rfl, ?_⟩) (by assumption) ?_
          rotate_left
          · intro w hSw; (try dsimp only at hSw); go_simp <;> with_reducible rfl
          try simp only [Act.put, List.setIfInBounds_toArray, List.set_cons_zero, List.set_cons_succ]
          refine wpAnyH_take (i := 3) (oi := ⟨some 33, _, _, _, _, _⟩) (v := ?_) rfl (by kernel_rfl) (by kernel_rfl) (by kernel_rfl) (fun _ _ _ h => h) (Or.inl ⟨by rfl, ?_⟩) (by assumption) ?_
          rotate_left
          · intro w hSw; (try dsimp only at hSw); go_simp <;> with_reducible rfl
          try simp only [Act.put, List.setIfInBounds_toArray, List.set_cons_zero, List.set_cons_succ]
          refine wpAnyH_take (i := 4) (oi := ⟨some 34, _, _, _, _, _⟩) (v := ?_) rfl (by kernel_rfl) (by kernel_rfl) (by kernel_rfl) (fun _ _ _ h => h) (Or.inl ⟨by rfl, ?_⟩) (by assumption) ?_
          rotate_left
          · intro w hSw; (try dsimp only at hSw); go_simp <;> with_reducible rfl
          try simp only [Act.put, List.setIfInBounds_toArray, List.set_cons_zero, List.set_cons_succ]
          refine wpAnyH_take (i := 5) (oi := ⟨some 35, _, _, _, _, _⟩) (v := ?_) rfl (by kernel_rfl) (by kernel_rfl) (by kernel_rfl) (fun _ _ _ h => h) (Or.inl ⟨by rfl, ?_⟩) (by assumption) ?_
          rotate_left
          · intro w hSw; (try dsimp only at hSw); go_simp <;> with_reducible rfl
          try simp only [Act.put, List.setIfInBounds_toArray, List.set_cons_zero, List.set_cons_succ]
          refine wpAnyH_take (i := 6) (oi := ⟨some 36, _, _, _, _, _⟩) (v := ?_) rfl (by kernel_rfl) (by kernel_rfl) (by kernel_rfl) (fun _ _ _ h => h) (Or.inl ⟨by rfl, ?_⟩) (by assumption) ?_
          rotate_left
          · intro w hSw; (try dsimp only at hSw); go_simp <;> with_reducible rfl
          try simp only [Act.put, List.setIfInBounds_toArray, List.set_cons_zero, List.set_cons_succ]
          refine wpAnyH_take (i := 7) (oi := ⟨some 37, _, _, _, _, _⟩) (v := ?_) rfl (by kernel_rfl) (by kernel_rfl) (by kernel_rfl) (fun _ _ _ h => h) (Or.inl ⟨by rfl, ?_⟩) (by assumption) ?_
          rotate_left
          · intro w hSw; (try dsimp only at hSw); go_simp <;> with_reducible rfl
          try simp only [Act.put, List.setIfInBounds_toArray, List.set_cons_zero, List.set_cons_succ]
          refine wpAnyH_take (i := 9) (oi := ⟨some 39, _, _, _, _, _⟩) (v := ?_) rfl (by kernel_rfl) (by kernel_rfl) (by kernel_rfl) (fun _ _ _ h => h) (Or.inl ⟨by rfl, ?_⟩) (by assumption) ?_
          rotate_left
          · intro w hSw; (try dsimp only at hSw); go_simp <;> with_reducible rfl
          try simp only [Act.put, List.setIfInBounds_toArray, List.set_cons_zero, List.set_cons_succ]
          refine wpAnyH_ready (rs := [8, 10]) (by kernel_rfl) (by simp) ?_
          refine AllReadyH.cons (o := ⟨some 38, _, _, _, _, _⟩) rfl (fun K hK => ?_) ?_
          (refine step_lookV _ rfl (.tmp 34) (.tmp 37) 88 rfl 43 37 kT Try.underlying88 (zeroI _) mb (N + 1) f4 rfl (by first | exact HM5.out.drew | (have h := HMA.out; rw [← HHA.out] at h; exact h)) _ _ rfl HKZ.out (.slice Az (post4 (t.1, 0)).length cz) (by rw [HG4.out (t.1, 0) HTZ.out kz HKZ.out]; exact HSZ.out) ?_)
          refine hK.out _ _ ?_ (fun hHeld => ?_)
          · (try dsimp only); first | assumption | exact HC9.out _ (bnil _).drew | exact HC9.out _ (bnew (bnil _).drew _) | exact HX7.out.cell 0 | exact HX8.out.cell 0
          clear hK K
          try simp only [Act.put, List.setIfInBounds_toArray, List.set_cons_zero, List.set_cons_succ]
          refine wpAnyH_ready (rs := [10]) (by kernel_rfl) (by simp) ?_
          refine AllReadyH.cons (o := ⟨some 40, _, _, _, _, _⟩) rfl (fun K hK => ?_) AllReadyH.nil
          go_simp
          refine hK.out _ _ ?_ (fun hHeld => ?_)
          · (try dsimp only); first | assumption | exact HC9.out _ (bnil _).drew | exact HC9.out _ (bnew (bnil _).drew _) | exact HX7.out.cell 0 | exact HX8.out.cell 0
          clear hK K
          try simp only [Act.put, List.setIfInBounds_toArray, List.set_cons_zero, List.set_cons_succ]
          refine wpAnyH_ready (rs := [11]) (by kernel_rfl) (by simp) ?_
          refine AllReadyH.cons (o := ⟨some 41, _, _, _, _, _⟩) rfl (fun K hK => ?_) AllReadyH.nil
          (rw [HHA.out]; refine step_appN9 elmI gI_one rfl (.tmp 38) (.tmp 40) rfl (.slice Az (post4 (t.1, 0)).length cz) (castL (post4 (t.1, 0))) rfl HOZ.out [(i : Int)] (castL (post4 (t.1, 0) ++ [i])) HYZ.out (by rw [castL_len]) rfl HSF2.out rfl (by rw [castL_len, List.length_append]; simp only [maxLen, List.length_singleton]; omega) (by rw [castL_len, List.length_append, List.length_singleton]; omega) ?_; intro A7 c7 w7 hc7 hc8 O7 G7 N7; have HX7 := hid (HGX.out w7 G7.out))
          refine hK.out _ _ ?_ (fun hHeld => ?_)
          · (try dsimp only); first | assumption | exact HC9.out _ (bnil _).drew | exact HC9.out _ (bnew (bnil _).drew _) | exact HX7.out.cell 0 | exact HX8.out.cell 0
          clear hK K
          try simp only [Act.put, List.setIfInBounds_toArray, List.set_cons_zero, List.set_cons_succ]
          refine wpAnyH_ready (rs := [12]) (by kernel_rfl) (by simp) ?_
          refine AllReadyH.cons (o := ⟨none, _, _, _, _, _⟩) rfl (fun K hK => ?_) AllReadyH.nil
          (refine step_storeV _ rfl (.tmp 30) (.tmp 33) (.tmp 41) 88 rfl 43 37 kT Try.underlying88 mb (N + 1) f4 rfl (HMG.out w7 G7.out) (by simp only [maxLen]; omega) _ (.slice A7 (post4 (t.1, 0) ++ [i]).length c7) kz rfl rfl HKZ.out ?_; intro w8 hm8 hg8; have HX8 := hid (HGY.out w7 w8 HX7.out (HMG.out w7 G7.out) hg8.out))
          refine hK.out _ _ ?_ (fun hHeld => ?_)
          · (try dsimp only); first | assumption | exact HC9.out _ (bnil _).drew | exact HC9.out _ (bnew (bnil _).drew _) | exact HX7.out.cell 0 | exact HX8.out.cell 0
          clear hK K
          try dsimp only [Act.put]
          refine wpAnyH_done (by kernel_rfl) ?_ _
          rotate_left
          refine AllReadyH.cons (o := ⟨some 40, _, _, _, _, _⟩) rfl (fun K hK => ?_) AllReadyH.nil
          go_simp
          refine hK.out _ _ ?_ (fun hHeld => ?_)
          · (try dsimp only); first | assumption | exact HC9.out _ (bnil _).drew | exact HC9.out _ (bnew (bnil _).drew _) | exact HX7.out.cell 0 | exact HX8.out.cell 0
          clear hK K
          try simp only [Act.put, List.setIfInBounds_toArray, List.set_cons_zero, List.set_cons_succ]
          refine wpAnyH_ready (rs := [8]) (by kernel_rfl) (by simp) ?_
          refine AllReadyH.cons (o := ⟨some 38, _, _, _, _, _⟩) rfl (fun K hK => ?_) AllReadyH.nil
          (refine step_lookV _ rfl (.tmp 34) (.tmp 37) 88 rfl 43 37 kT Try.underlying88 (zeroI _) mb (N + 1) f4 rfl (by first | exact HM5.out.drew | (have h := HMA.out; rw [← HHA.out] at h; exact h)) _ _ rfl HKZ.out (.slice Az (post4 (t.1, 0)).length cz) (by rw [HG4.out (t.1, 0) HTZ.out kz HKZ.out]; exact HSZ.out) ?_)
          refine hK.out _ _ ?_ (fun hHeld => ?_)
          · (try dsimp only); first | assumption | exact HC9.out _ (bnil _).drew | exact HC9.out _ (bnew (bnil _).drew _) | exact HX7.out.cell 0 | exact HX8.out.cell 0
          clear hK K
          try simp only [Act.put, List.setIfInBounds_toArray, List.set_cons_zero, List.set_cons_succ]
          refine wpAnyH_ready (rs := [11]) (by kernel_rfl) (by simp) ?_
          refine AllReadyH.cons (o := ⟨some 41, _, _, _, _, _⟩) rfl (fun K hK => ?_) AllReadyH.nil
          (rw [HHA.out]; refine step_appN9 elmI gI_one rfl (.tmp 38) (.tmp 40) rfl (.slice Az (post4 (t.1, 0)).length cz) (castL (post4 (t.1, 0))) rfl HOZ.out [(i : Int)] (castL (post4 (t.1, 0) ++ [i])) HYZ.out (by rw [castL_len]) rfl HSF2.out rfl (by rw [castL_len, List.length_append]; simp only [maxLen, List.length_singleton]; omega) (by rw [castL_len, List.length_append, List.length_singleton]; omega) ?_; intro A7 c7 w7 hc7 hc8 O7 G7 N7; have HX7 := hid (HGX.out w7 G7.out))
          refine hK.out _ _ ?_ (fun hHeld => ?_)
          · (try dsimp only); first | assumption | exact HC9.out _ (bnil _).drew | exact HC9.out _ (bnew (bnil _).drew _) | exact HX7.out.cell 0 | exact HX8.out.cell 0
          clear hK K
          try simp only [Act.put, List.setIfInBounds_toArray, List.set_cons_zero, List.set_cons_succ]
          refine wpAnyH_ready (rs := [12]) (by kernel_rfl) (by simp) ?_
          refine AllReadyH.cons (o := ⟨none, _, _, _, _, _⟩) rfl (fun K hK => ?_) AllReadyH.nil
          (refine step_storeV _ rfl (.tmp 30) (.tmp 33) (.tmp 41) 88 rfl 43 37 kT Try.underlying88 mb (N + 1) f4 rfl (HMG.out w7 G7.out) (by simp only [maxLen]; omega) _ (.slice A7 (post4 (t.1, 0) ++ [i]).length c7) kz rfl rfl HKZ.out ?_; intro w8 hm8 hg8; have HX8 := hid (HGY.out w7 w8 HX7.out (HMG.out w7 G7.out) hg8.out))
          refine hK.out _ _ ?_ (fun hHeld => ?_)
          · (try dsimp only); first | assumption | exact HC9.out _ (bnil _).drew | exact HC9.out _ (bnew (bnil _).drew _) | exact HX7.out.cell 0 | exact HX8.out.cell 0
          clear hK K
          try dsimp only [Act.put]
          refine wpAnyH_done (by kernel_rfl) ?_ _
          rotate_left
          all_goals
            have hO8 := (HOA.out.app (t := (t.1, 0)) (i := i) (v3 := .slice A7 (post4 (t.1, 0) ++ [i]).length c7) O7.out (by rw [HSZ.out]; exact G7.out) (by rw [HSZ.out]; exact N7.out)).map (HMG.out w7 G7.out) hg8.out HI9.out.ge
            have hG8 := HG4.out.upd HTZ.out HKZ.out (.slice A7 (post4 (t.1, 0) ++ [i]).length c7)
            have hP8 := HI9.out.inv.next hx64 HTT.out
            rw [HP4.out] at hP8
            have HNEW := hid (show Below w.heap.size w w8 ∧ IdxS w w8 mb (N + 1 + 1) ns i ((tagsOf x).take (k + 1)) _ _ _ from ⟨(hO8.own (0, 0)).below, hm8.out, hG8, hO8, hP8, HI9.out.ge, addP_len HL4.out (t.1, 0) i, HD4.out.upd HTZ.out HKZ.out _ i⟩)
            clear hO8 hG8 hP8 hHeld HX7 HX8 O7 G7 N7 hm8 hg8
            go_wp2_with fail
            go_roundw
            case rel => exact ⟨k + 1, N + 1 + 1, _, _, _, by omega, by omega, by go_num, HNEW⟩
            case measure => simp [intOf]; omega
        · obtain rfl : k = m := by omega
          have hall : (tagsOf x).take k = tagsOf x := List.take_of_length_le (by rw [HXM.out]; exact Nat.le_refl _)
          have hr := HR.out.2
          have HNEW := hid (show IdxS w wr mb N ns (i + 1) [] post f sv from ⟨hr.map, hr.get, hr.own, (by have h := hr.inv; rw [hall] at h; exact h.full hx64 HX.out), hr.ge, hr.len, hr.dom⟩)
          clear hall hr
          go_wp2_with fail
          go_roundw
          case rel => exact ⟨i + 1, N, post, f, sv, by omega, by omega, by go_num, hid ⟨HR.out.1, HNEW.out⟩⟩
          case measure => simp [intOf]; omega
    · obtain rfl : i = n := by omega
      have HFIN := hid (show IdxAt2 wr mb ns from ⟨N0, f0, HR0.out.2.map, (fun u hu kl hk => by
        obtain ⟨A9, c9, h9, _, _⟩ := (HR0.out.2.own.own u).form
        refine ⟨A9, _, c9, (HR0.out.2.get u hu kl hk).trans h9, ?_⟩
        have h := HR0.out.2.own.own u
        rw [h9] at h
        have h1 := h.sl
        have h2 := HR0.out.2.inv u hu
        simp only [List.any_nil, Bool.false_eq_true, if_false, List.append_nil] at h2
        rw [h2] at h1 ⊢
        rw [H.out.len]
        exact h1), (fun kl v hv => by
        obtain ⟨t, h3, h4, h5⟩ := HR0.out.2.dom kl v hv
        refine ⟨t, h3, h4, ?_⟩
        have h2 := HR0.out.2.inv t h3
        simp only [List.any_nil, Bool.false_eq_true, if_false, List.append_nil] at h2
        rw [h2] at h5
        rw [H.out.len]
        exact h5), by omega⟩)
      go_wp2_with fail
      refine bodyPost_ret (v := .map (some mb)) (by simp [results, Try.results31, go_sem]) rfl ?_
      exact ⟨mb, rfl, HFIN.out, HR0.out.1, HR0.out.2.ge⟩
theorem tags_index (A : Option Addr) (n c : Nat) (ns : List Nat) (w : World) (h : SerAt w A n ns) :
    Calls Try.prog 31 #[.slice A n c] w fun e w' => ∃ mb, e = .returned (.map (some mb)) ∧ IdxAt w' mb ns ∧ Below w.heap.size w w' :=
  (tags_index2 A n c ns w h).mono fun e w' ⟨mb, h1, h2, h3, _⟩ => ⟨mb, h1, h2.one, h3⟩
end Go.Proofs.Ytfdgklfkpofkeaa
