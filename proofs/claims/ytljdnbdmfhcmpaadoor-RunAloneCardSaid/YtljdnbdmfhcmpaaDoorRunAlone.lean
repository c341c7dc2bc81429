/-
  RunAlone: its walk.
-/
import Derived.Test.YtljdnbdmfhcmpaaDoorRunPre
namespace Go.Proofs.YtljdnbdmfhcmpaaDoor
open Go.RowKit
set_option linter.unusedVariables false
theorem mk4000 (w : World) : (Instr.makeSlice 23 (.int .i64 4000) (.int .i64 4000)).run Tryd.prog w = .ok (.slice (some ⟨w.heap.size, 0, none⟩) 4000 4000) (w.alloc (.cells (madeCells #[Value.int .i64 0] 4000) 3)) :=
  run_make_row' (P := Tryd.prog) 23 3 (.int .i64 0) 8 Tryd.underlying23 (by kernel_rfl) rfl .i64 .i64 4000 (by omega) (by omega) w
theorem vrun_wlen (code : List Op5) : ∀ (L : Nat) (s : Th × List Int), (vrun code L s).2.length = s.2.length
  | 0, s => rfl
  | L + 1, s => by
    unfold vrun
    split
    · rfl
    · rw [vrun_wlen code L, vstep_wlen]
theorem CRow.at_ {B : Nat} {w : World} {A : Option Addr} {n c k : Nat} {calls : List VCall} {avs : List SV} {x : VCall} (h : CRow B w (.slice A n c) calls avs) (hk : calls[k]? = some x) :
    ∃ b v, A = some ⟨b, 0, none⟩ ∧ n = calls.length ∧ w.cell? ⟨b, k * 2, none⟩ = some (.int .i64 (x.code : Int)) ∧ w.cell? ⟨b, k * 2 + 1, none⟩ = some (SV.v v) ∧ b < w.heap.size ∧ Sl w 1 v.A v.n (ints x.args) := by
  have hl := (List.getElem?_eq_some_iff.1 hk).1
  obtain ⟨h1, h2, h3⟩ := h
  obtain ⟨b, c', e, _, hc⟩ := own_at h2 (by omega)
  injection e with e1 e2 e3
  subst e1
  obtain ⟨v, hv⟩ : ∃ v, avs[k]? = some v := ⟨_, List.getElem?_eq_getElem (by omega)⟩
  have hz : (calls.zip avs)[k]? = some (x, v) := by rw [List.getElem?_zip_eq_some]; exact ⟨hk, hv⟩
  have c0 := hc (k * 2 + 0) _ (flatMap_at gS 2 (fun _ => rfl) _ k 0 _ hz (by decide))
  have c1 := hc (k * 2 + 1) _ (flatMap_at gS 2 (fun _ => rfl) _ k 1 _ hz (by decide))
  have ha := h3 k x v hk hv
  obtain ⟨A', c2, e', _⟩ := own_form ha
  refine ⟨b, v, rfl, e2, c0, c1, World.block_lt_of_cell? w _ c0, ?_⟩
  have e2 : v.n = x.args.length := by injection e'
  rw [← e2] at ha
  exact Sl.own ha
theorem zerosN (N : Nat) (w : World) (b : Nat) (h : w.heap.size = b) : Sl (w.alloc (.cells (madeCells #[Value.int .i64 0] N) 3)) 1 (some ⟨b, 0, none⟩) N (ints ((List.replicate N 0).map fun x : Nat => (x : Int))) := by
  have e : (madeCells #[Value.int .i64 0] N).toList = ints ((List.replicate N 0).map fun x : Nat => (x : Int)) := by
    rw [Go.toList_madeCells_one, List.map_replicate]
    unfold ints
    refine List.ext_getElem? fun j => ?_
    by_cases h : j < N
    · have h1 := flatMap_at gI 1 (fun _ => rfl) (List.replicate N ((0 : Nat) : Int)) j 0 ((0 : Nat) : Int) (by rw [List.getElem?_replicate, if_pos h]) (by decide)
      rw [Nat.mul_one, Nat.add_zero] at h1
      rw [h1, List.getElem?_replicate, if_pos h]; rfl
    · rw [List.getElem?_eq_none (by simp; omega), List.getElem?_eq_none (by rw [flatMap_len gI 1 (fun _ => rfl)]; simp; omega)]
  have h1 := (blkN w 3 (madeCells #[Value.int .i64 0] N) b h).sl 1 N (by rw [← Array.length_toList, e, ints_length]; simp)
  rw [e] at h1
  exact h1
set_option maxHeartbeats 4000000 in
set_option maxRecDepth 100000 in
theorem law_runAlone (A : Option Addr) (n c : Nat) (ls : List Op5) (A2 : Option Addr) (n2 c2 : Nat) (ms : List Op5) (D : Option Addr) (r s : Nat) (cs : List Int) (w : World)
    (hn : n ≤ c) (hc : c ≤ maxLen) (_ : c * 40 ≤ 140737488351232) (hA : Sl w 5 A n (ls.flatMap gO)) (hls : ∀ x ∈ ls, LineOk x)
    (hn2 : n2 ≤ c2) (hc2 : c2 ≤ maxLen) (_ : c2 * 40 ≤ 140737488351232) (hA2 : Sl w 5 A2 n2 (ms.flatMap gO)) (hms : ∀ x ∈ ms, LineOk x)
    (hr : r ≤ s) (hs : s ≤ maxLen) (_ : s * 8 ≤ 140737488351232) (hD : Sl w 1 D r (ints cs)) (hcs : ∀ x ∈ cs, -9223372036854775808 ≤ x ∧ x ≤ 9223372036854775807) (hT : STab w) :
    Calls Tryd.prog 10 #[.slice A n c, .slice A2 n2 c2, .slice D r s] w fun e w' => e = .returned (.bool true) ∧ Below w.heap.size w w' := by
  have HA := hid (Lines.mk hA hls); have HA2 := hid (Lines.mk hA2 hms); have HD := hid hD; have HCS := hid hcs; have HT := hid hT
  clear hA hA2 hls hms hD hcs hT
  have HC := hid hc; have HC2 := hid hc2; have HSS := hid hs; clear hc hc2 hs
  go_enter Tryd.func10, Tryd.ntmps10
  go_wp2_with fail
  refine (machine_of A n c A2 n2 c2 D r s ls ms cs w hn HC.out hn2 HC2.out (Nat.le_trans hr HSS.out) HA.out HA2.out HD.out HCS.out).mono ?_
  rintro e w1 hp1
  obtain ⟨Wb, Cb, T, c1', c2', tv, av, rfl, hM, b1⟩ := hp1
  have HM := hid hM; have B1 := hid b1
  clear hM b1
  obtain ⟨X, hX⟩ : ∃ X, w1.heap.size = X := ⟨_, rfl⟩
  go_upto_region 2 with fail
  have HX0 := hid (blkN w1 44 #[.slice (some ⟨Wb, 0, none⟩) 8 8, .slice (some ⟨Cb, 0, none⟩) 2 2, .slice (some ⟨T, 0, none⟩) 3 3] X hX)
  have BA := hid (bgo B1.out (bnew (bnil w1) (.cells #[.slice (some ⟨Wb, 0, none⟩) 8 8, .slice (some ⟨Cb, 0, none⟩) 2 2, .slice (some ⟨T, 0, none⟩) 3 3] 44)))
  have HMA := hid (HM.out.below (bnew (bnil w1) (.cells #[.slice (some ⟨Wb, 0, none⟩) 8 8, .slice (some ⟨Cb, 0, none⟩) 2 2, .slice (some ⟨T, 0, none⟩) 3 3] 44)))
  generalize World.alloc w1 _ = wA at *
  clear hX HM
  have x2 : wA.cell? ⟨X, 2, none⟩ = some (.slice (some ⟨T, 0, none⟩) 3 3) := HX0.out.cell 2
  have t1 : wA.cell? ⟨T, 1, none⟩ = some (tv 1) := by rw [HMA.out.tb.cell 1]; rfl
  have t2 : wA.cell? ⟨T, 2, none⟩ = some (tv 2) := by rw [HMA.out.tb.cell 2]; rfl
  have f1 := HMA.out.tb.frozen 1
  have f2 := HMA.out.tb.frozen 2
  have hXT : X ≠ T := HX0.out.ne_ HMA.out.tb (by decide)
  have hTX : T ≠ X := fun e => hXT e.symm
  have BTT := hid ((BA.out.setCell (p := ⟨T, 1, none⟩) HMA.out.geT (.slice none 0 0)).setCell (p := ⟨T, 2, none⟩) HMA.out.geT (.slice none 0 0))
  have HX1 := hid ((HX0.out.far (p := ⟨T, 1, none⟩) hXT (.slice none 0 0)).far (p := ⟨T, 2, none⟩) hXT (.slice none 0 0))
  have HM1 := hid ((HMA.out.none_ (j := 1) (by decide)).none_ (j := 2) (by decide))
  go_upto_region 4 with fail
  generalize World.setCell (World.setCell wA _ _) _ _ = wT at *
  clear x2 t1 t2 f1 f2
  obtain ⟨th, hth⟩ : ∃ th, upd (upd (mthr cs (min 12 cs.length)) 1 []) 2 [] = th := ⟨_, rfl⟩
  obtain ⟨tw, htw⟩ : ∃ tw, upd (upd tv 1 (.slice none 0 0)) 2 (.slice none 0 0) = tw := ⟨_, rfl⟩
  obtain ⟨aw, haw⟩ : ∃ aw, upd (upd av 1 []) 2 [] = aw := ⟨_, rfl⟩
  rw [hth, htw, haw] at HM1
  have HTH := hid (show ∀ j, j < 3 → (th j).length ≤ 12 ∧ ∀ c ∈ th j, c.code < 2 ∧ c.args.length ≤ 8 from fun j hj => by
    rw [← hth]
    unfold upd
    split
    · exact ⟨by simp, by simp⟩
    · split
      · exact ⟨by simp, by simp⟩
      · exact mthr_th cs j hj)
  clear hth htw haw
  obtain ⟨bz, hbz⟩ : ∃ bz, wT.heap.size = bz := ⟨_, rfl⟩
  have hzs := zerosN 4000 wT bz hbz
  have HZS := hid hzs
  have BZ := hid (bnew (bnil wT) (.cells (madeCells #[Value.int .i64 0] 4000) 3))
  clear hzs
  have hmk := mk4000
  go_upto_region 5 with fail
  clear hmk
  generalize World.alloc wT _ = wZ at *
  have HXZ := hid (HX1.out.below' BZ.out)
  have HMZ := hid (HM1.out.below BZ.out)
  have BWZ := hid (bgo BTT.out BZ.out)
  clear hbz
  have y0 : wZ.cell? ⟨X, 0, none⟩ = some (.slice (some ⟨Wb, 0, none⟩) 8 8) := HXZ.out.cell 0
  have y1 : wZ.cell? ⟨X, 1, none⟩ = some (.slice (some ⟨Cb, 0, none⟩) 2 2) := HXZ.out.cell 1
  have y2 : wZ.cell? ⟨X, 2, none⟩ = some (.slice (some ⟨T, 0, none⟩) 3 3) := HXZ.out.cell 2
  go_wp2_with fail
  clear y0 y1 y2
  obtain ⟨hA, hW⟩ := ML.mach HMZ.out HTH.out
  have HTZ := hid (HT.out.below BWZ.out)
  have HM0 := hid (show (machT ls ms th).threads[0]? = some (th 0) from rfl)
  have HMT := hid (show 0 < (machT ls ms th).threads.length by simp [machT])
  have HMC := hid (show ∀ (i : Nat) (code : List Op5), (machT ls ms th).codes[i]? = some code → code.length ≤ 12 from fun i code h => by
    match i, h with
    | 0, h => injection h with h; rw [← h, codeOf_len]; omega
    | 1, h => injection h with h; rw [← h, codeOf_len]; omega
    | i + 2, h => simp [machT] at h)
  have HMCL := hid (show (machT ls ms th).codes.length = 2 from rfl)
  have HM8 := hid (show (machT ls ms th).words.length = 8 from rfl)
  have HMW := hid (show (machT ls ms th).words = List.replicate 8 0 from rfl)
  have HMA' := hid hA
  generalize machT ls ms th = m at *
  refine (run_play _ _ _ _ 8 8 2 2 3 3 4000 4000 m (List.replicate 4000 0) wZ (by decide) (by decide) (by decide) (by decide) HTZ.out hA hW HZS.out (fun x hx => by rw [(List.mem_replicate.1 hx).2]; decide)).mono ?_
  rintro e w9 hp9
  obtain ⟨ev9, wv9, es9, rfl, HA9, HE9, HT9, HW9, b9⟩ := hp9
  have HX9 := hid (HXZ.out.below' b9)
  have HM9 := hid (HMZ.out.below b9)
  have BW9 := hid (bgo BWZ.out b9)
  have HT9' := hid (HTZ.out.below b9)
  obtain ⟨A9, c9, rfl, hn9, hn9'⟩ := own_form HA9
  obtain ⟨Aw, cw, rfl, _, _⟩ := own_form HW9
  have hw8 := play_words m (List.replicate 4000 0)
  rw [HM8.out] at hw8
  have HEV := hid (Evs.mk HA9 HT9)
  have HEE := hid HE9
  have hel := evs_len HE9
  have HWS := hid (Sl.own HW9)
  have HAL := hid (AloneAt.start m 4000 HMT.out)
  have HMB := hid (HMA'.out.below b9)
  rw [hw8] at HWS ⊢
  generalize play m (List.replicate 4000 0) = P at *
  clear HA9 HT9 HE9 HW9 b9 hw8
  obtain ⟨L9, hL9⟩ : ∃ L9, es9.length = L9 := ⟨_, rfl⟩
  rw [hL9] at HEV hn9 hel ⊢
  have HL9 := hid hL9; have HEL := hid hel
  clear hL9 hel
  unfold maxLen at hn9'
  go_wp2_with fail
  refine (run_sure _ HT9'.out).mono ?_
  rintro e w10 ⟨rfl, b10⟩
  have HX10 := hid (HX9.out.below' b10)
  have HM10 := hid (HM9.out.below b10)
  have HMD := hid (HMB.out.below b10)
  have B10 := hid b10
  clear b10
  go_upto_region 8 with fail
  have y0 : w10.cell? ⟨X, 0, none⟩ = some (.slice (some ⟨Wb, 0, none⟩) 8 8) := HX10.out.cell 0
  obtain ⟨ya, hya⟩ : ∃ ya, m.words = ya := ⟨_, rfl⟩
  have HYA := hid hya
  have HYS := hid (show ([] : List Int) ++ ya = ya from rfl)
  have HYL := hid (show ya.length = 8 by rw [← hya]; exact HM8.out)
  have HWM := hid (show Sl w10 1 (some ⟨Wb, 0, none⟩) 8 (ya.flatMap gI) by rw [← hya, HMW.out]; exact HM10.out.words)
  clear hya
  go_wp2_with (at_builtin; (refine wpList_appB elmI gI_one rfl (.const (.slice none 0 0)) (.tmp 46) rfl (.slice none 0 0) [] rfl (own0 _ w10.heap.size _ 1) ya ya HYS rfl HWM.out HYL.out (by rw [HYL.out]; simp only [maxLen]; omega) (by rw [HYL.out]; omega) (Nat.le_refl _) ?_; intro E6 c6 w11 hc6 hc7 HN6 HG6; have HB6 := hid (grown_nil HG6.out)))
  clear y0 hc6 hc7
  have HN11 := hid (by have h := Sl.own HN6.out; rw [HYL.out] at h; exact h : Sl w11 1 E6 8 (ya.flatMap gI))
  rw [HYL.out]
  clear HN6 HG6
  obtain ⟨nc, hnc⟩ : ∃ nc, (th 0).length = nc := ⟨_, rfl⟩
  have hnc12 : nc ≤ 12 := by rw [← hnc]; exact (HTH.out 0 (by decide)).1
  have HNC := hid hnc
  clear hnc
  have HAL0 := hid (by have h := HAL.out; rw [HYA.out] at h; exact h : AloneAt m P 0 4000 ya)
  clear HAL
  go_loopw [12, 13, 14, 15] (fun nw av lf i wr => ∃ (k a2 L : Nat) (now : List Int) (An : Option Addr) (cn : Nat), k ≤ nc ∧ L ≤ 4000 ∧ i = .int .i64 k ∧ av = .int .i64 a2 ∧ lf = .int .i64 L ∧ nw = .slice An 8 cn ∧ Hid (a2 = 2 * k) ∧ Hid (now.length = 8) ∧ Hid (Sl wr 1 An 8 (now.flatMap gI)) ∧ Hid (AloneAt m P k L now) ∧ Hid (Below w10.heap.size w10 wr)) (fun _ _ _ i _ => nc - (intOf i).toNat)
  case atStart => exact ⟨0, 0, 4000, ya, E6, c6, Nat.zero_le _, Nat.le_refl _, rfl, rfl, rfl, rfl, rfl, HYL, HN11, HAL0, HB6⟩
  case round =>
    obtain ⟨k, a2, L, now, An, cn, hk, hL, rfl, rfl, rfl, rfl, HA2K, HNOW, HSN, HAT, BR⟩ := hrel
    have HXR := hid (HX10.out.below' BR.out)
    have HMR := hid (HM10.out.below BR.out)
    have hXT2 : X ≠ T := HXR.out.ne_ HMR.out.tb (by decide)
    have r1 : wr.cell? ⟨X, 1, none⟩ = some (.slice (some ⟨Cb, 0, none⟩) 2 2) := HXR.out.cell 1
    have r2 : wr.cell? ⟨X, 2, none⟩ = some (.slice (some ⟨T, 0, none⟩) 3 3) := HXR.out.cell 2
    obtain ⟨A0, c0', hA0, _, _⟩ := own_form (HMR.out.rows 0 (by decide)).2.1
    have r3 : wr.cell? ⟨T, 0, none⟩ = some (.slice A0 nc c0') := by rw [HMR.out.tb.cell 0, ← HNC.out, ← hA0]; rfl
    have HROW := hid (by have h := HMR.out.rows 0 (by decide); rw [hA0, HNC.out] at h; exact h : CRow w.heap.size wr (.slice A0 nc c0') (th 0) (aw 0))
    have ha2 : a2 ≤ 24 := by rw [HA2K.out]; omega
    clear hA0
    by_cases hlt : k < nc
    · have j1 : (k : Int) < (nc : Int) := by omega
      obtain ⟨cl, hcl⟩ : ∃ cl, (th 0)[k]? = some cl := ⟨_, List.getElem?_eq_getElem (by rw [HNC.out]; exact hlt)⟩
      by_cases hL0 : L = 0
      · subst hL0
        obtain rfl : a2 = L9 := by have := HAT.out.zero; rw [← HEL.out, ← HA2K.out] at this; exact this.symm
        go_wp2_with fail
        go_ret
        exact ⟨by simp, bgo BW9.out (bgo B10.out BR.out)⟩
      · have q0 : ((L : Int) == 0) = false := by simp; omega
        obtain ⟨code, hcode⟩ : ∃ code, m.codes[cl.code]? = some code := ⟨_, List.getElem?_eq_getElem (by rw [HMCL.out]; exact ((HTH.out 0 (by decide)).2 cl (List.mem_of_getElem? hcl)).1)⟩
        have hnext := HAT.out.next HM0.out hcl hcode (by omega)
        obtain ⟨b0, sv, rfl, _, d0, d1, ld, hargs⟩ := HROW.out.at_ hcl
        have hal : cl.args.length ≤ 8 := ((HTH.out 0 (by decide)).2 cl (List.mem_of_getElem? hcl)).2
        have hc2 : cl.code < 2 := ((HTH.out 0 (by decide)).2 cl (List.mem_of_getElem? hcl)).1
        obtain ⟨cvs, _, e2, e3⟩ := (HMD.out.below BR.out).codes
        obtain ⟨Ao, no, co, z1, z2, z3, z4, z5⟩ := e3 _ code hcode
        obtain ⟨adc, vc, g1, g2, g3⟩ := sl_at e2 hc2
        rw [z1] at g2; injection g2 with g2; subst g2
        injection g1 with g1; subst g1
        rw [ad_at] at g3
        obtain ⟨⟨cc, ags⟩, hcl'⟩ : ∃ x, x = cl := ⟨_, rfl⟩
        subst hcl'
        simp only at d0 hargs hal hc2 hnext hcode g3
        obtain ⟨Sx, hSx⟩ : ∃ Sx, vres code ags now L = Sx := ⟨_, rfl⟩
        obtain ⟨Nx, hNx⟩ : ∃ Nx, vcount code L (vbegin code.length ags, now) = Nx := ⟨_, rfl⟩
        rw [← vres_eq, hSx, hNx] at hnext
        obtain ⟨mt, hmt⟩ : ∃ mt, Sx.1.told.length = mt := ⟨_, rfl⟩
        obtain ⟨er, her⟩ : ∃ er, verr Sx.1 = er := ⟨_, rfl⟩
        have hS8 : Sx.2.length = 8 := by rw [← hSx, vres_eq, vrun_wlen]; exact HNOW.out
        have hce := vres_err code ags now L
        rw [hSx] at hce
        have HSX := hid hSx; have HNX := hid hNx; have HMT := hid hmt; have HER := hid her; have HS8 := hid hS8; have HNEXT := hid hnext; have HCE := hid hce
        have HCODE := hid (CodeAt.mk z5 z4); have HARGS := hid hargs
        obtain ⟨Ag, ng, cg⟩ := sv
        simp only at d1 HARGS
        have hns : ng ≤ 8 := by have := HARGS.out.leni; omega
        clear hSx hNx hmt her hS8 hnext hce z5 z4 z1 z3 hargs hcode hcl e2 e3
        have d1 : wr.cell? ⟨b0, k * 2 + 1, none⟩ = some (.slice Ag ng cg) := d1
        obtain ⟨bx, hbx⟩ : ∃ bx, wr.heap.size = bx := ⟨_, rfl⟩
        have HBX := hid hbx
        have XB := hid (blkN wr 59 #[.int .i64 (cc : Int), .slice Ag ng cg] bx hbx)
        have BN := hid (bnew (bnil wr) (.cells #[.int .i64 (cc : Int), .slice Ag ng cg] 59))
        clear hbx
        go_wp2_with fail
        have hbx := HBX.out
        rw [hbx] at ld ⊢
        generalize World.alloc wr _ = wy at *
        have s0 := cell_below BN.out r1
        have s1 := cell_below BN.out g3
        have s2 : wy.cell? ⟨bx, 0, none⟩ = some (.int .i64 (cc : Int)) := XB.out.cell 0
        have s3 : wy.cell? ⟨bx, 1, none⟩ = some (.slice Ag ng cg) := XB.out.cell 1
        have i2 : (cc : Int) < 2 := by omega
        have HTY := hid (((HT9'.out.below (bgo B10.out BR.out)).below BN.out).below (bnil wy).drew)
        have HCY := hid ((HCODE.out.below BN.out).below (bnil wy).drew)
        have HAY := hid ((HARGS.out.below BN.out).below (bnil wy).drew)
        have HNY := hid ((HSN.out.below BN.out).below (bnil wy).drew)
        have BY := hid (bgo BR.out BN.out)
        clear hbx r1 r2 r3 d0 d1 g3 ld
        go_region_held3 (fun w' => Below wy.heap.size wy w' ∧ w'.cell? ⟨X, 1, none⟩ = some (.slice (some ⟨Cb, 0, none⟩) 2 2) ∧ w'.cell? ⟨Cb, cc, none⟩ = some (.slice Ao no co) ∧ w'.cell? ⟨bx, 0, none⟩ = some (.int .i64 (cc : Int)) ∧ w'.cell? ⟨bx, 1, none⟩ = some (.slice Ag ng cg))
          ((refine sees4 ?_ s0 s1 s2 s3; (repeat (first | assumption | exact (bgo (bnil wy).drew O1.out.below) | exact bnil _ | refine Below.drew ?_ | refine bnew ?_ _))))
          (first
            | (go_at_call 13; ((with_reducible refine (vm_runL Sx Nx mt 8 er HSX HNX HMT HS8 HER z2 hns (by decide) (by omega) HTY.out HCY.out HAY.out HNY.out).mono ?_); rintro e w13 ⟨Bt, bt, Dt, dt, rfl, hb1, hb2, hb3, hb4, O1, O2⟩)))
        all_goals
          have B13 := hid (bgo BY.out (bgo (bnil wy).drew O1.out.below))
          have OT := hid (show Sl w13 1 Bt mt (ints Sx.1.told) from O1.out.sl)
          have OW := hid O2.out.sl
          clear O1 O2 s0 s1 s2 s3
          have a1 : (a2 : Int) + 1 = ((a2 + 1 : Nat) : Int) := by omega
          obtain ⟨e1, he1⟩ : ∃ e1, a2 + 1 = e1 := ⟨_, rfl⟩
          rw [he1] at a1
          cases hov : Sx.1.over with
          | false =>
            obtain rfl : er = 11 := by rw [← HER.out]; unfold verr; rw [hov]; rfl
            obtain rfl : e1 = L9 := by have := HNEXT.out.1 hov; rw [← HEL.out, ← HA2K.out] at this; omega
            clear he1
            go_wp2_with fail
            go_ret
            exact ⟨by simp, bgo BW9.out (bgo B10.out B13.out)⟩
          | true =>
            obtain ⟨m1, m2, eB, eE, m3, m4, m5, m6, m7, m8, m9⟩ := HNEXT.out.2 hov
            have her : er = (Sx.1.err : Int) := by rw [← HER.out]; unfold verr; rw [hov]; rfl
            have hne : (er == 11) = false := by rw [her]; rcases HCE.out with h | h | h <;> rw [h] <;> rfl
            rw [← HA2K.out] at m3 m4
            rw [he1] at m4
            rw [← HEE.out, List.getElem?_map] at m3 m4
            obtain ⟨yB, hyB, rfl⟩ := Option.map_eq_some_iff.1 m3
            obtain ⟨yE, hyE, rfl⟩ := Option.map_eq_some_iff.1 m4
            have hel : e1 < L9 := by have := (List.getElem?_eq_some_iff.1 hyE).1; rw [HL9.out] at this; exact this
            obtain ⟨b9, rfl, ⟨v0, v1, v2, v3, v4, v5⟩, vb, vs', vn⟩ := (HEV.out.below (bgo B10.out B13.out)).at_ hyB
            obtain ⟨b9', hb9, ⟨u0, u1, u2, u3, u4, u5⟩, ub, us', un⟩ := (HEV.out.below (bgo B10.out B13.out)).at_ hyE
            injection hb9 with hb9; injection hb9 with hb9; subst hb9
            rw [m5] at v3
            rw [m6] at u3
            rw [m7] at u2
            rw [m8, ← her] at u4
            rw [m9] at us'
            have HUS := hid us'
            have h2k := HA2K.out
            have j2 : decide ((L9 : Int) ≤ (e1 : Int)) = false := by simp; omega
            have j2n : decide (L9 ≤ e1) = false := by simp; omega
            have j3 : (e1 : Int) < (L9 : Int) := by omega
            have j4 : (a2 : Int) < (L9 : Int) := by omega
            have j5 : (a2 : Int) + 2 = ((2 * (k + 1) : Nat) : Int) := by omega
            obtain ⟨a3, ha3⟩ : ∃ a3, 2 * (k + 1) = a3 := ⟨_, rfl⟩
            rw [ha3] at j5
            have HA3 := hid ha3.symm
            obtain ⟨mx, hmx⟩ : ∃ mx, max 1 Nx = mx := ⟨_, rfl⟩
            rw [hmx] at m1 m2
            have HM2 := hid m2
            have hmi : max (1 : Int) (Nx : Int) = (mx : Int) := by omega
            have j6 : (L : Int) - (mx : Int) = ((L - mx : Nat) : Int) := by omega
            obtain ⟨L2, hL2⟩ : ∃ L2, L - mx = L2 := ⟨_, rfl⟩
            rw [hL2] at j6 HM2
            have hL24 : L2 ≤ 4000 := by omega
            clear m1 m2 m3 m4 m5 m6 m7 m8 m9 hyB hyE us' vs' her h2k ha3 hmx hL2 he1
            obtain ⟨eEv, ⟨Ae, ne, ce⟩⟩ := yE
            have hne2 : ne = mt := by have h1 := HUS.out.leni; simp only at h1; rw [← h1, ← HMT.out]
            have u5 : w13.cell? ⟨b9, e1 * 6 + 5, none⟩ = some (.slice Ae mt ce) ∧ Sl w13 1 Ae mt (ints Sx.1.told) := by rw [← hne2]; exact ⟨u5, HUS.out⟩
            clear hne2 HUS
            obtain ⟨u5', hun⟩ := u5
            have HUN := hid hun
            have hmt3 : mt ≤ 9223372036854775807 := by omega
            clear hun
            clear u5
            go_wp2_with fail
            (with_reducible refine (same_ints Ae Bt mt ce bt Sx.1.told _ hmt3 HUN.out OT.out).mono ?_)
            rintro e w14 ⟨rfl, b14⟩
            have B14 := hid (bgo B13.out b14)
            have OW2 := hid (OW.out.below b14)
            clear b14
            go_wp2
            go_roundw
            case rel => exact ⟨k + 1, a3, L2, Sx.2, Dt, dt, by omega, hL24, by go_num, rfl, (by have h : ((L : Int) - if (1 : Int) < (Nx : Int) then (Nx : Int) else 1) = (L2 : Int) := by { split <;> omega }; rw [h]), rfl, HA3, HS8, OW2, HM2, B14⟩
            case measure => simp [intOf]; omega
    · obtain rfl : k = nc := by omega
      have j1 : ¬ (k : Int) < (k : Int) := by omega
      obtain ⟨e1, e2⟩ := HAT.out.done HM0.out (by rw [HNC.out]; exact Nat.le_refl _)
      obtain rfl : a2 = L9 := by rw [← HEL.out, ← HA2K.out] at e1; exact e1.symm
      have HE2 := hid e2
      clear e1 e2
      go_wp2_with fail
      refine (same_ints An Aw 8 cn cw now _ (by decide) HSN.out (by have h := HWS.out.below (bgo B10.out BR.out); rw [HE2.out] at h; exact h)).mono ?_
      rintro e w12 ⟨rfl, b12⟩
      go_wp2
      go_ret
      exact ⟨by simp, bgo BW9.out (bgo (bgo B10.out BR.out) b12)⟩
end Go.Proofs.YtljdnbdmfhcmpaaDoor
