/-
  The walk of a law of ring. (Merged by mergeR.py.)
-/
import Derived.Test.YtiinnkdhccgelaaDoorRingW2
import Derived.Test.YtiinnkdhccgelaaDoorSpent
namespace Go.Proofs.YtiinnkdhccgelaaDoor
open Go.RowKit
set_option linter.unusedVariables false

theorem spent_cnt2 (d : Dg) (l : List Nat) (h : ∀ e, d.e = some e → e < l.length) : spentOf d l = cnt l d.b (match d.e with | none => l.length | some e => e + 1) d.t := by
  unfold spentOf cnt
  cases he : d.e with
  | none => rfl
  | some e =>
    have := h e he
    show List.count d.t (((l.drop d.b).take (min l.length (e + 1) - d.b))) = _
    rw [Nat.min_eq_right (by omega)]
theorem take_filter {p : Dg → Bool} {ds : List Dg} {k : Nat} {d : Dg} (h : ds[k]? = some d) : (ds.take (k + 1)).filter p = (ds.take k).filter p ++ (if p d then [d] else []) := by
  rw [List.take_add_one, h, List.filter_append]
  cases hp : p d <;> simp [hp]
/-- the puts among the first k calls -/
def PsOf (ds : List Dg) (k : Nat) (ps : List (Dg × SV)) : Prop := ps.map (·.1) = (ds.take k).filter isP
theorem PsOf.same {ds : List Dg} {k : Nat} {ps : List (Dg × SV)} {d : Dg} (h : PsOf ds k ps) (hk : ds[k]? = some d) (hp : isP d = false) : PsOf ds (k + 1) ps := by
  unfold PsOf at h ⊢
  rw [take_filter hk, hp, h]; simp
theorem PsOf.more {ds : List Dg} {k : Nat} {ps ps' : List (Dg × SV)} {d : Dg} (h : PsOf ds k ps) (hk : ds[k]? = some d) (hp : isP d = true) {s : SV} (e : ps ++ [(d, s)] = ps') : PsOf ds (k + 1) ps' := by
  unfold PsOf at h ⊢
  rw [take_filter hk, hp, ← h, ← e]; simp
/-- there are few calls -/
theorem ring_len {N : Nat} {ds : List Dg} {H : List Lr} (X : RX N ds H) : ds.length ≤ 40 := by
  have hnd : (ds.map fun d => 20 * d.t + d.c).Nodup := by
    rw [List.Nodup, List.pairwise_map, List.pairwise_iff_getElem]
    intro i j hi hj hij e
    have h1 := List.getElem?_eq_getElem hi
    have h2 := List.getElem?_eq_getElem hj
    have h3 := X.call _ _ h1
    have h4 := X.call _ _ h2
    have := X.uniq i j _ _ h1 h2 (by omega) (by omega)
    omega
  have h := nodup_count (fun _ _ => true) 40 (List.range 40) _ (by simp) hnd fun t ht => by
    obtain ⟨d, hd, rfl⟩ := List.mem_map.1 ht
    obtain ⟨k, hk⟩ := List.getElem?_of_mem hd
    have := X.call k d hk
    exact ⟨20 * d.t + d.c, List.getElem?_range (by omega), rfl⟩
  rw [List.length_map, cntI_filter (fun _ => true)] at h
  exact Nat.le_trans h (by decide)
theorem dg_eta {d : Dg} {b : Option Nat} {t : Nat} {told : List Int} (he : d.e = b) (ht : d.t = t) (hd : d.told = told) : d = ⟨d.b, b, t, d.c, told⟩ := by subst he ht hd; rfl
theorem isP1 {d : Dg} (h : d.t = 1) : isP d = false := by simp [isP, h]
theorem isPn {d : Dg} (h : d.t = 0) (he : d.e = none) : isP d = true := by simp [isP, h, he]
theorem isPs {d : Dg} (h : d.t = 0) {e : Nat} (he : d.e = some e) (ht : d.told = [1]) : isP d = true := by simp [isP, h, he, ht]
theorem isPz {d : Dg} (h : d.t = 0) {e : Nat} (he : d.e = some e) (ht : d.told = [0]) : isP d = false := by simp [isP, h, he, ht]
theorem isT0 {d : Dg} (h : d.t = 0) : isT d = false := by simp [isT, h]
theorem isTn {d : Dg} (he : d.e = none) : isT d = false := by simp [isT, he]
theorem isTz {d : Dg} {e : Nat} (he : d.e = some e) (ht : d.told = [-1]) : isT d = false := by simp [isT, he, ht]
theorem isTs {d : Dg} (h : d.t = 1) {e : Nat} (he : d.e = some e) {v : Int} (ht : d.told = [v]) (hv : v ≠ -1) : isT d = true := by simp [isT, h, he, ht, hv]
/-- a put in the list of puts -/
theorem ps_at {w0 w : World} {bp n c q : Nat} {ps : List (Dg × SV)} {x : Dg} (h : Ow w0 w 46 5 gD (.slice (some ⟨bp, 0, none⟩) n c) ps) (hx : (ps.map (·.1))[q]? = some x) : w.cell? ⟨bp, q * 5, none⟩ = some (.int .i64 (x.b : Int)) ∧ w.cell? ⟨bp, q * 5 + 3, none⟩ = some (.int .i64 (x.c : Int)) := by
  rw [List.getElem?_map] at hx
  obtain ⟨y, hy, rfl⟩ := Option.map_eq_some_iff.1 hx
  have hl : 0 < ps.length := by have := (List.getElem?_eq_some_iff.1 hy).1; omega
  obtain ⟨b, c', e, hb, hc⟩ := own_at h.own hl
  injection e with e1 e2 e3
  injection e1 with e1; injection e1 with e1
  subst e1
  have h0 := flatMap_at gD 5 (fun _ => rfl) ps q 0 y hy (by decide)
  have h3 := flatMap_at gD 5 (fun _ => rfl) ps q 3 y hy (by decide)
  rw [Nat.add_zero] at h0
  exact ⟨hc (q * 5) _ (by rw [h0]; rfl), hc (q * 5 + 3) _ (by rw [h3]; rfl)⟩
set_option maxHeartbeats 8000000 in
set_option maxRecDepth 100000 in
theorem law_ringOrder (xi : Int) (S : Option Addr) (p q : Nat) (bs : List UInt8) (w : World) (ha : -9223372036854775808 ≤ xi) (ha1 : xi ≤ 9223372036854775807) (hp : p ≤ q) (hq : q ≤ maxLen) (_ : q * 1 ≤ 140737488351232) (hS : Sl w 1 S p (byts bs)) (hT : STab w) :
    Calls Tryd.prog 5 #[.int .i64 xi, .slice S p q] w fun e w' => e = .returned (.bool true) ∧ Below w.heap.size w w' := by
  have HS := hid hS; have HT := hid hT
  clear hS hT
  have hpl : p ≤ 9223372036854775807 := by unfold maxLen at hq; omega
  clear hq
  have m1 := pk_lt xi 8 (by decide)
  obtain ⟨N, hR⟩ : ∃ N : Nat, wrap64 (1 + (pk xi 8 : Int)) = (N : Int) ∧ N = 1 + pk xi 8 := ⟨1 + pk xi 8, by rw [wrap_mid (by omega) (by omega)]; omega, rfl⟩
  have h1 : 1 ≤ N := by omega
  have h8 : N ≤ 8 := by omega
  have HR := hid hR.1
  clear hR m1
  go_enter Tryd.func5, Tryd.ntmps5
  go_wp2_with fail
  refine (picked xi 8 w (by decide) ha ha1 (by decide)).mono ?_
  rintro e w' ⟨rfl, rfl⟩
  go_wp2_with fail
  rw [HR.out]
  refine (ring_machine N w h1 h8 HT.out).mono ?_
  rintro e w1 hp1
  obtain ⟨AW, cW, Cb, T, cv1, tv, av, rfl, hW, hM, b1⟩ := hp1
  have HM := hid hM; have B1 := hid b1; have HW := hid hW
  clear hM b1 hW
  obtain ⟨X, hX⟩ : ∃ X, w1.heap.size = X := ⟨_, rfl⟩
  go_upto_region 3 with fail
  have HX0 := hid (blkN w1 34 #[.slice AW (2 + N) cW, .slice (some ⟨Cb, 0, none⟩) 2 2, .slice (some ⟨T, 0, none⟩) 2 2] X hX)
  have BA := hid (bgo B1.out (bnew (bnil w1) (.cells #[.slice AW (2 + N) cW, .slice (some ⟨Cb, 0, none⟩) 2 2, .slice (some ⟨T, 0, none⟩) 2 2] 34)))
  have HMN := hid (HM.out.below (bnew (bnil w1) (.cells #[.slice AW (2 + N) cW, .slice (some ⟨Cb, 0, none⟩) 2 2, .slice (some ⟨T, 0, none⟩) 2 2] 34)))
  have HMA := hid (rgM_at h8 HMN.out)
  have HWA := hid (own_below HW.out (bnew (bnil w1) (.cells #[.slice AW (2 + N) cW, .slice (some ⟨Cb, 0, none⟩) 2 2, .slice (some ⟨T, 0, none⟩) 2 2] 34)))
  try rw [hX]
  generalize World.alloc w1 _ = wA at *
  clear hX HM HW
  have y0 : wA.cell? ⟨X, 0, none⟩ = some (.slice AW (2 + N) cW) := HX0.out.cell 0
  have y1 : wA.cell? ⟨X, 1, none⟩ = some (.slice (some ⟨Cb, 0, none⟩) 2 2) := HX0.out.cell 1
  have y2 : wA.cell? ⟨X, 2, none⟩ = some (.slice (some ⟨T, 0, none⟩) 2 2) := HX0.out.cell 2
  go_wp2_with fail
  refine (schedule_n S p q 2 1200 bs _ hpl (by decide) (by decide) (by decide) (HS.out.below (bgo BA.out (bnil wA)))).mono ?_; rintro e w2 ⟨v, rfl, ho⟩; have hl4 : (schedN bs 2 1200).length ≤ 1200 := (by have := schedN_len bs 2 1200; omega); have HLT := hid (schedN_lt bs (N := 2) (by decide) 1200); generalize schedN bs 2 1200 = all at *; obtain ⟨Al, cl, rfl, hcl, hcl2⟩ := ho.form; have HO := hid ho; clear ho; rw [show (nats all).length = all.length by simp] at *; unfold maxLen at hcl2; obtain ⟨NN, hN⟩ : ∃ NN, all.length = NN := ⟨_, rfl⟩; rw [hN] at HO hl4 hcl ⊢; have HN := hid hN; clear hN
  have BS := hid HO.out.below
  obtain ⟨z0, z1, z2⟩ := cells3 BS.out y0 y1 y2
  go_wp2_with fail
  have HWS := hid (show Sl w2 1 AW (2 + N) (ints (List.replicate (N + 2) (0 : Int))) from Sl.own (own_below HWA.out BS.out)); have HNE := hid (ring_res ⟨h1, h8⟩ all).2.2; have HMB := hid (HMA.out.below BS.out); refine (ran_of AW (some ⟨Cb, 0, none⟩) (some ⟨T, 0, none⟩) Al (2 + N) cW 2 2 2 2 NN cl (rgM N) all w2 (by omega) (by decide) (by decide) (by omega) hcl (HT.out.below (bgo BA.out BS.out)) HMB.out HWS.out HO.out.sl HLT.out HNE.out (play_fin _ all)).mono ?_; rintro e w3 hp3; obtain ⟨v3, rs, rfl, hrow, hrs, htold, b3⟩ := hp3; obtain ⟨A3, c3, rfl, hc3, hc3'⟩ := own_form hrow; obtain ⟨LD, hLD⟩ : ∃ LD, rs.length = LD := ⟨_, rfl⟩; rw [hLD] at hrow hc3 ⊢; have HD := hid (DsAt.mk hLD hrow htold); have HRS := hid hrs; have B3 := hid (bgo BS.out b3); have HSL := hid (HO.out.sl.below b3); clear hrow htold hrs b3 hLD
  have B03 := hid (bgo BA.out B3.out)
  clear z0 z1 z2 y0 y1 y2 HX0 HMA HWA BA HO HWS HMB BS HMN
  have HQ := hid (show ROrd (doings (play (rgM N) all).evs) from by obtain ⟨H, hH⟩ := (ring_res ⟨h1, h8⟩ all).1; exact ring_order hH)
  have HSP := hid (ring_res ⟨h1, h8⟩ all).2.1
  have HL40 := hid (show (doings (play (rgM N) all).evs).length ≤ 40 from by obtain ⟨H, hH⟩ := (ring_res ⟨h1, h8⟩ all).1; exact ring_len hH)
  have HTM := hid (play_di (rgM N) all).time
  rw [← HRS.out] at HQ HTM HSP HL40
  rw [HN.out] at HTM
  clear HRS HNE
  unfold maxLen at hc3'
  go_wp2_with fail
  obtain ⟨ds, hds⟩ : ∃ ds, rs.map (·.1) = ds := ⟨_, rfl⟩
  have HDS := hid hds
  have HDL := hid (show ds.length = LD by rw [← hds, List.length_map]; exact HD.out.len)
  rw [hds] at HQ HTM HSP HL40
  rw [HDL.out] at HL40
  clear hds
  go_loopw [11, 12] (fun v i wr => ∃ (k : Nat) (ps : List (Dg × SV)), k ≤ LD ∧ i = .int .i64 k ∧ Hid (PsOf ds k ps) ∧ Hid (Ow w3 wr 46 5 gD v ps)) (fun _ i _ => LD - (intOf i).toNat)
  case atStart => exact ⟨0, [], Nat.zero_le _, rfl, hid rfl, hid (Ow.nil _ _ _ _)⟩
  case round =>
    obtain ⟨k, ps, hk, rfl, HPS, HP⟩ := hrel
    obtain ⟨Ap, cp, rfl, hcp, hcp2⟩ := HP.out.form
    obtain ⟨LP, hLP⟩ : ∃ LP, ps.length = LP := ⟨_, rfl⟩
    have HLP := hid hLP
    rw [hLP] at hcp HP ⊢
    clear hLP
    unfold maxLen at hcp2
    by_cases hlt : k < LD
    · have j1 : (k : Int) < (LD : Int) := by omega
      obtain ⟨b9, d, At, ct, rfl, hd, lt9, u0, u1, u2, u3, u4, ut⟩ := (HD.out.below HP.out.below).at_ hlt
      rw [HDS.out] at hd
      have HDk := hid hd
      have hcall := HQ.out.call k d hd
      have htm := HTM.out k d hd
      have hpl2 : LP ≤ k := by
        have h := congrArg List.length HPS.out
        rw [List.length_map, HLP.out] at h
        have := List.length_filter_le isP (ds.take k)
        rw [List.length_take] at this
        omega
      have HLK := hid hpl2
      have hsp : spentOf d all ≤ 14 := Nat.le_trans (Nat.le_of_eq (spent_cnt2 d all (fun e he => by rw [HN.out]; exact (htm.2 e he).2))) (HSP.out k d hd)
      have htb : d.b ≤ NN := Nat.le_of_lt htm.1
      have HTE := hid htm.2
      have HUT := hid ut
      have HPB := hid HP.out.below
      have hL40 := HL40.out
      have hLP40 : LP ≤ 40 := by omega
      clear hd ut htm hpl2 lt9 hL40
      go_wp2_with fail
      refine (spent_of d ⟨At, d.told.length, ct⟩ Al NN cl all _ (by omega) htb HTE.out (HSL.out.below HPB.out)).mono ?_
      rintro e w5 ⟨rfl, b5⟩
      obtain ⟨sp, hsp'⟩ : ∃ sp, spentOf d all = sp := ⟨_, rfl⟩
      rw [hsp'] at hsp ⊢
      clear hsp'
      have g80 : ¬ ((80 : Int) < (sp : Int)) := by omega
      have HP5 := hid (HP.out.step b5)
      have HU5 := hid (own_below HUT.out b5)
      replace u0 := cell_below b5 u0; replace u1 := cell_below b5 u1; replace u2 := cell_below b5 u2; replace u3 := cell_below b5 u3; replace u4 := cell_below b5 u4
      have hdd : d.t = 0 ∨ d.t = 1 := by omega
      clear b5 HUT HP HPB HTE hsp htb
      rcases hdd with hdt | hdt
      · rw [hdt] at u2
        replace u2 : w5.cell? ⟨b9, k * 5 + 2, none⟩ = some (.int .i64 0) := u2
        cases he : d.e with
        | none =>
          rw [he] at u1
          simp only [eI] at u1
          have HNX := hid (isPn hdt he)
          have HDE := hid (dg_eta (told := d.told) he hdt rfl)
          obtain ⟨yy, hyy⟩ : ∃ yy, ps ++ [((⟨d.b, none, 0, d.c, d.told⟩ : Dg), (⟨At, d.told.length, ct⟩ : SV))] = yy := ⟨_, rfl⟩
          have HYE := hid hyy
          have HYL := hid (show yy.length = LP + 1 by rw [← hyy, List.length_append, HLP.out]; rfl)
          have HYP := hid (HPS.out.more HDk.out HNX.out (s := ⟨At, d.told.length, ct⟩) ((congrArg (fun z => ps ++ [(z, (⟨At, d.told.length, ct⟩ : SV))]) HDE.out).trans hyy))
          clear hyy he hdt
          go_wp2_with (at_builtin; refine wpList_appY elmD gD_one rfl (.tmp 115) (.tmp 120) rfl (.slice Ap LP cp) ps rfl (HP5.out.alloc _) [((⟨d.b, none, 0, d.c, d.told⟩, ⟨At, d.told.length, ct⟩) : Dg × SV)] yy HYE rfl (Sl.fresh' _ #[_, _, _, _, _] 46 5 1 _ rfl rfl) rfl (by rw [HYL.out]; unfold maxLen; omega) (by rw [HYL.out]; omega) ?_; intro A4 c4 w4 hc4 hc5 HN4 _ _)
          go_roundw
          case rel => exact ⟨k + 1, yy, by omega, by go_num, HYP, HN4⟩
          case measure => simp [intOf]; omega
        | some e =>
          rw [he] at u1
          simp only [eI] at u1
          obtain ⟨v, htd, hv01⟩ := HQ.out.told k d e HDk.out he
          obtain ⟨bt, rfl, hbt, t0⟩ := told_one HU5.out htd
          rw [htd] at u4
          replace u4 : w5.cell? ⟨b9, k * 5 + 4, none⟩ = some (.slice (some ⟨bt, 0, none⟩) 1 ct) := u4
          have en2 : ((e : Int) == -1) = false := beqF (by omega)
          have en3 : ((e : Int) != -1) = true := bneT (by omega)
          have en4 : ¬ ((e : Int) = -1) := by omega
          have hv01 := hv01 hdt
          rcases hv01 with rfl | rfl
          · have HNX := hid (isPz hdt he htd)
            clear he hdt htd HU5
            go_wp2_with fail
            go_roundw
            case rel => exact ⟨k + 1, ps, by omega, by go_num, hid (HPS.out.same HDk.out HNX.out), HP5⟩
            case measure => simp [intOf]; omega
          · have HNX := hid (isPs hdt he htd)
            have HDE := hid (dg_eta he hdt htd)
            obtain ⟨yy, hyy⟩ : ∃ yy, ps ++ [((⟨d.b, some e, 0, d.c, [1]⟩ : Dg), (⟨some ⟨bt, 0, none⟩, 1, ct⟩ : SV))] = yy := ⟨_, rfl⟩
            have HYE := hid hyy
            have HYL := hid (show yy.length = LP + 1 by rw [← hyy, List.length_append, HLP.out]; rfl)
            have HYP := hid (HPS.out.more HDk.out HNX.out (s := ⟨some ⟨bt, 0, none⟩, 1, ct⟩) ((congrArg (fun z => ps ++ [(z, (⟨some ⟨bt, 0, none⟩, 1, ct⟩ : SV))]) HDE.out).trans hyy))
            clear hyy he hdt htd HU5
            go_wp2_with (at_builtin; refine wpList_appY elmD gD_one rfl (.tmp 115) (.tmp 120) rfl (.slice Ap LP cp) ps rfl (HP5.out.alloc _) [((⟨d.b, some e, 0, d.c, [1]⟩, ⟨some ⟨bt, 0, none⟩, 1, ct⟩) : Dg × SV)] yy HYE rfl (Sl.fresh' _ #[_, _, _, _, _] 46 5 1 _ rfl rfl) rfl (by rw [HYL.out]; unfold maxLen; omega) (by rw [HYL.out]; omega) ?_; intro A4 c4 w4 hc4 hc5 HN4 _ _)
            go_roundw
            case rel => exact ⟨k + 1, yy, by omega, by go_num, HYP, HN4⟩
            case measure => simp [intOf]; omega
      · rw [hdt] at u2
        replace u2 : w5.cell? ⟨b9, k * 5 + 2, none⟩ = some (.int .i64 1) := u2
        have HNX := hid (isP1 hdt)
        cases he : d.e with
        | none =>
          rw [he] at u1
          simp only [eI] at u1
          clear he hdt HU5
          go_wp2_with fail
          go_roundw
          case rel => exact ⟨k + 1, ps, by omega, by go_num, hid (HPS.out.same HDk.out HNX.out), HP5⟩
          case measure => simp [intOf]; omega
        | some e =>
          rw [he] at u1
          simp only [eI] at u1
          obtain ⟨v, htd, hv01⟩ := HQ.out.told k d e HDk.out he
          obtain ⟨bt, rfl, hbt, t0⟩ := told_one HU5.out htd
          rw [htd] at u4
          replace u4 : w5.cell? ⟨b9, k * 5 + 4, none⟩ = some (.slice (some ⟨bt, 0, none⟩) 1 ct) := u4
          have en2 : ((e : Int) == -1) = false := beqF (by omega)
          have en3 : ((e : Int) != -1) = true := bneT (by omega)
          have en4 : ¬ ((e : Int) = -1) := by omega
          clear he hdt htd HU5 hv01
          go_wp2_with fail
          go_roundw
          case rel => exact ⟨k + 1, ps, by omega, by go_num, hid (HPS.out.same HDk.out HNX.out), HP5⟩
          case measure => simp [intOf]; omega
    · obtain rfl : LD = k := by omega
      have j1 : ¬ (LD : Int) < (LD : Int) := by omega
      have HPM := hid (show ps.map (·.1) = ds.filter isP from by have h := HPS.out; unfold PsOf at h; rw [h, List.take_of_length_le (by rw [HDL.out]; exact Nat.le_refl _)])
      have BP := hid HP.out.below
      have HPL := hid (show (ds.filter isP).length = LP by rw [← HPM.out, List.length_map, HLP.out])
      clear HPS hk
      go_wp2_with fail
      go_loopw [13, 14] (fun tk i wz => ∃ (k q : Nat), k ≤ LD ∧ q ≤ k ∧ i = .int .i64 k ∧ tk = .int .i64 q ∧ Hid (q = ((ds.take k).filter isT).length) ∧ Hid (Below wr.heap.size wr wz)) (fun _ i _ => LD - (intOf i).toNat)
      case atStart => exact ⟨0, 0, Nat.zero_le _, Nat.le_refl _, rfl, rfl, hid rfl, hid (bnil _)⟩
      case round =>
        obtain ⟨j, q, hj, hqj, rfl, rfl, HQJ, BZ⟩ := hrel
        by_cases hlt2 : j < LD
        · have j2 : (j : Int) < (LD : Int) := by omega
          obtain ⟨b9, d, At, ct, rfl, hd, lt9, u0, u1, u2, u3, u4, ut⟩ := (HD.out.below (bgo BP.out BZ.out)).at_ hlt2
          rw [HDS.out] at hd
          have HDk := hid hd
          have hcall := HQ.out.call j d hd
          have hdd : d.t = 0 ∨ d.t = 1 := by omega
          have HUT := hid ut
          clear hd ut lt9 hcall u0 u3
          rcases hdd with hdt | hdt
          · rw [hdt] at u2
            replace u2 : wr.cell? ⟨b9, j * 5 + 2, none⟩ = some (.int .i64 0) := u2
            have HNX := hid (show q = ((ds.take (j + 1)).filter isT).length by rw [take_filter HDk.out, isT0 hdt, HQJ.out]; simp)
            clear hdt u1 u4
            go_wp2_with fail
            go_roundw
            case rel => exact ⟨j + 1, q, by omega, by omega, by go_num, rfl, HNX, BZ⟩
            case measure => simp [intOf]; omega
          · rw [hdt] at u2
            replace u2 : wr.cell? ⟨b9, j * 5 + 2, none⟩ = some (.int .i64 1) := u2
            cases he : d.e with
            | none =>
              rw [he] at u1
              simp only [eI] at u1
              have HNX := hid (show q = ((ds.take (j + 1)).filter isT).length by rw [take_filter HDk.out, isTn he, HQJ.out]; simp)
              clear hdt he u4
              go_wp2_with fail
              go_roundw
              case rel => exact ⟨j + 1, q, by omega, by omega, by go_num, rfl, HNX, BZ⟩
              case measure => simp [intOf]; omega
            | some e =>
              rw [he] at u1
              simp only [eI] at u1
              obtain ⟨v, htd, _⟩ := HQ.out.told j d e HDk.out he
              obtain ⟨bt, rfl, hbt, t0⟩ := told_one HUT.out htd
              rw [htd] at u4
              replace u4 : wr.cell? ⟨b9, j * 5 + 4, none⟩ = some (.slice (some ⟨bt, 0, none⟩) 1 ct) := u4
              have en2 : ((e : Int) == -1) = false := beqF (by omega)
              have en4 : ¬ ((e : Int) = -1) := by omega
              by_cases hv : v = -1
              · subst hv
                have HNX := hid (show q = ((ds.take (j + 1)).filter isT).length by rw [take_filter HDk.out, isTz he htd, HQJ.out]; simp)
                clear hdt he htd HUT hbt
                go_wp2_with fail
                go_roundw
                case rel => exact ⟨j + 1, q, by omega, by omega, by go_num, rfl, HNX, BZ⟩
                case measure => simp [intOf]; omega
              · have HNX := hid (show q + 1 = ((ds.take (j + 1)).filter isT).length by rw [take_filter HDk.out, isTs hdt he htd hv, HQJ.out]; simp)
                obtain ⟨x, hx, hvx, hxb⟩ := HQ.out.take j d e v HDk.out hdt he htd hv
                rw [← HQJ.out] at hx
                have hql : q < LP := by rw [← HPL.out]; exact (List.getElem?_eq_some_iff.1 hx).1
                rw [← HPM.out] at hx
                have HPZ := hid (HP.out.step BZ.out)
                have hAp : ∃ bp, Ap = some ⟨bp, 0, none⟩ := by
                  obtain ⟨b, c', e1, _, _⟩ := own_at HPZ.out.own (by rw [HLP.out]; omega)
                  injection e1 with e1
                  exact ⟨b, e1⟩
                obtain ⟨bp, rfl⟩ := hAp
                obtain ⟨p0, p3⟩ := ps_at HPZ.out hx
                have iv : (v == -1) = false := beqF hv
                have hZ : v = (x.c : Int) + 1 := by omega
                subst hZ
                have xc20 : x.c ≤ 1000 := by
                  have h1 : x ∈ ds.filter isP := by rw [← HPM.out]; exact List.mem_of_getElem? hx
                  obtain ⟨k2, hk2⟩ := List.getElem?_of_mem (List.mem_filter.1 h1).1
                  have := (HQ.out.call k2 x hk2).2
                  omega
                have d1 : decide ((LP : Int) ≤ (q : Int)) = false := decide_eq_false (by omega)
                have d2 : decide ((e : Int) < (x.b : Int)) = false := decide_eq_false (by omega)
                have d3 : (((x.c : Int) + 1) != ((x.c : Int) + 1)) = false := by simp
                have iw : IntKind.i64.wrap ((x.c : Int) + 1) = (x.c : Int) + 1 := IntWalk.i64_in _ (by omega)
                have iq : (q : Int) < (LP : Int) := by omega
                have n1 : ¬ ((e : Int) < (x.b : Int)) := by omega
                have n2 : ¬ ((LP : Int) ≤ (q : Int)) := by omega
                have iw2 : wrap64 ((x.c : Int) + 1) = (x.c : Int) + 1 := wrap_mid (by omega) (by omega)
                clear hdt he htd HUT hbt hx hvx hxb hv
                go_upto_region 23 with fail
                go_quiet (fail)
                have BZ1 := hid (below_drewN BZ.out nq)
                go_wp2_with fail
                all_goals first
                  | (go_roundw
                     case rel => exact ⟨j + 1, q + 1, by omega, by omega, by go_num, (by first | rfl | go_num), HNX, BZ1⟩
                     case measure => simp [intOf]; omega)
                  | (exfalso; rename_i hbad; first | omega | (simp [d3, n1, n2] at hbad; done) | (simp [d3, n1, n2] at hbad; omega) | (trace_state; sorry))
        · obtain rfl : LD = j := by omega
          have j2 : ¬ (LD : Int) < (LD : Int) := by omega
          go_wp2_with fail
          go_ret
          exact ⟨rfl, bgo B03.out (bgo BP.out BZ.out)⟩
end Go.Proofs.YtiinnkdhccgelaaDoor
