/-
  RunIdle: its walk.
-/
import Derived.Test.YtljdnbdmfhcmpaaDoorRunPre
namespace Go.Proofs.YtljdnbdmfhcmpaaDoor
open Go.RowKit
set_option linter.unusedVariables false
theorem sees3 {W w' : World} {p q r : Addr} {u v x : Value} (h : Below W.heap.size W w') (hp : W.cell? p = some u) (hq : W.cell? q = some v) (hr : W.cell? r = some x) : Below W.heap.size W w' ∧ w'.cell? p = some u ∧ w'.cell? q = some v ∧ w'.cell? r = some x := ⟨h, cell_below h hp, cell_below h hq, cell_below h hr⟩
theorem sees12 {W w' : World} {p0 p1 p2 p3 p4 p5 p6 p7 p8 p9 p10 p11 : Addr} {z0 z1 z2 z3 z4 z5 z6 z7 z8 z9 z10 z11 : Value} (h : Below W.heap.size W w') (h0 : W.cell? p0 = some z0) (h1 : W.cell? p1 = some z1) (h2 : W.cell? p2 = some z2) (h3 : W.cell? p3 = some z3) (h4 : W.cell? p4 = some z4) (h5 : W.cell? p5 = some z5) (h6 : W.cell? p6 = some z6) (h7 : W.cell? p7 = some z7) (h8 : W.cell? p8 = some z8) (h9 : W.cell? p9 = some z9) (h10 : W.cell? p10 = some z10) (h11 : W.cell? p11 = some z11) : Below W.heap.size W w' ∧ w'.cell? p0 = some z0 ∧ w'.cell? p1 = some z1 ∧ w'.cell? p2 = some z2 ∧ w'.cell? p3 = some z3 ∧ w'.cell? p4 = some z4 ∧ w'.cell? p5 = some z5 ∧ w'.cell? p6 = some z6 ∧ w'.cell? p7 = some z7 ∧ w'.cell? p8 = some z8 ∧ w'.cell? p9 = some z9 ∧ w'.cell? p10 = some z10 ∧ w'.cell? p11 = some z11 := ⟨h, cell_below h h0, cell_below h h1, cell_below h h2, cell_below h h3, cell_below h h4, cell_below h h5, cell_below h h6, cell_below h h7, cell_below h h8, cell_below h h9, cell_below h h10, cell_below h h11⟩
set_option maxHeartbeats 4000000 in
set_option maxRecDepth 100000 in
theorem law_runIdle (A : Option Addr) (n c : Nat) (ls : List Op5) (A2 : Option Addr) (n2 c2 : Nat) (ms : List Op5) (D : Option Addr) (r s : Nat) (cs : List Int) (S : Option Addr) (p q : Nat) (bs : List UInt8) (a : Int) (w : World)
    (hn : n ≤ c) (hc : c ≤ maxLen) (_ : c * 40 ≤ 140737488351232) (hA : Sl w 5 A n (ls.flatMap gO)) (hls : ∀ x ∈ ls, LineOk x)
    (hn2 : n2 ≤ c2) (hc2 : c2 ≤ maxLen) (_ : c2 * 40 ≤ 140737488351232) (hA2 : Sl w 5 A2 n2 (ms.flatMap gO)) (hms : ∀ x ∈ ms, LineOk x)
    (hr : r ≤ s) (hs : s ≤ maxLen) (_ : s * 8 ≤ 140737488351232) (hD : Sl w 1 D r (ints cs)) (hcs : ∀ x ∈ cs, -9223372036854775808 ≤ x ∧ x ≤ 9223372036854775807)
    (hp : p ≤ q) (hq : q ≤ maxLen) (_ : q * 1 ≤ 140737488351232) (hS : Sl w 1 S p (byts bs))
    (ha : -9223372036854775808 ≤ a) (ha1 : a ≤ 9223372036854775807) (hT : STab w) :
    Calls Tryd.prog 9 #[.slice A n c, .slice A2 n2 c2, .slice D r s, .slice S p q, .int .i64 a] w fun e w' => e = .returned (.bool true) ∧ Below w.heap.size w w' := by
  have HA := hid (Lines.mk hA hls); have HA2 := hid (Lines.mk hA2 hms); have HD := hid hD; have HCS := hid hcs; have HS := hid hS; have HT := hid hT
  clear hA hA2 hls hms hD hcs hS hT
  have hpl : p ≤ 9223372036854775807 := by unfold maxLen at hq; omega
  have HC := hid hc; have HC2 := hid hc2; have HQ := hid hq; have HSS := hid hs; clear hc hc2 hq hs
  go_enter Tryd.func9, Tryd.ntmps9
  go_wp2_with fail
  refine (machine_of A n c A2 n2 c2 D r s ls ms cs w hn HC.out hn2 HC2.out (Nat.le_trans hr HSS.out) HA.out HA2.out HD.out HCS.out).mono ?_
  rintro e w1 hp1
  obtain ⟨Wb, Cb, T, c1', c2', tv, av, rfl, hM, b1⟩ := hp1
  have HM := hid hM; have B1 := hid b1
  clear hM b1
  obtain ⟨X, hX⟩ : ∃ X, w1.heap.size = X := ⟨_, rfl⟩
  go_wp2_with fail
  have HX0 := hid (blkN w1 44 #[.slice (some ⟨Wb, 0, none⟩) 8 8, .slice (some ⟨Cb, 0, none⟩) 2 2, .slice (some ⟨T, 0, none⟩) 3 3] X hX)
  have BA := hid (bgo B1.out (bnew (bnil w1) (.cells #[.slice (some ⟨Wb, 0, none⟩) 8 8, .slice (some ⟨Cb, 0, none⟩) 2 2, .slice (some ⟨T, 0, none⟩) 3 3] 44)))
  have HMA := hid (HM.out.below (bnew (bnil w1) (.cells #[.slice (some ⟨Wb, 0, none⟩) 8 8, .slice (some ⟨Cb, 0, none⟩) 2 2, .slice (some ⟨T, 0, none⟩) 3 3] 44)))
  generalize World.alloc w1 _ = wA at *
  clear hX HM
  refine (picked a 3 _ (by decide) ha ha1 (by decide)).mono ?_
  rintro e w' ⟨rfl, rfl⟩
  have hv3 := pk_lt a 3 (by decide)
  obtain ⟨v, hv⟩ : ∃ v, pk a 3 = v := ⟨_, rfl⟩
  rw [hv] at hv3 ⊢
  clear hv
  have hv : v < 3 := by omega
  have hv' : (v : Int) < 3 := by omega
  have x2 : wA.cell? ⟨X, 2, none⟩ = some (.slice (some ⟨T, 0, none⟩) 3 3) := HX0.out.cell 2
  have t2 : wA.cell? ⟨T, v, none⟩ = some (tv v) := by rw [HMA.out.tb.cell v]; exact arr3_at tv v hv
  have f2 := HMA.out.tb.frozen v
  have hXT : X ≠ T := HX0.out.ne_ HMA.out.tb (by decide)
  have BTT := hid (BA.out.setCell (p := ⟨T, v, none⟩) HMA.out.geT (.slice none 0 0))
  have HX1 := hid (HX0.out.far (p := ⟨T, v, none⟩) hXT (.slice none 0 0))
  have HM1 := hid (HMA.out.none_ hv)
  go_wp2_with fail
  generalize World.setCell wA _ _ = wT at *
  refine (schedule S p q 400 bs wT hpl (by decide) (HS.out.below BTT.out)).mono ?_
  rintro e w2 ⟨vs, rfl, ho⟩
  have hl4 : (sched bs 400).length ≤ 400 := by rw [sched_len]; omega
  have HLT := hid (sched_lt bs 400)
  generalize sched bs 400 = all at *
  obtain ⟨Al, cl, rfl, hcl, hcl2⟩ := ho.form
  have HO := hid ho; clear ho
  rw [show (nats all).length = all.length by simp] at *
  unfold maxLen at hcl2
  obtain ⟨N, hN⟩ : ∃ N, all.length = N := ⟨_, rfl⟩
  rw [hN] at HO hl4 hcl ⊢
  have HN := hid hN; clear hN
  go_wp2_with fail
  go_loopw [14, 15, 16] (fun f g i wr => ∃ (k bl : Nat) (F : Option Addr) (fc : Nat) (G : Option Addr) (gc : Nat), k ≤ N ∧ bl ≤ k ∧ i = .int .i64 k ∧ Hid ((busy v (all.take k)).length = bl) ∧ f = .slice F bl fc ∧ g = .slice G bl gc ∧
    Hid (wr.ownsRow w2.heap.size 3 1 (.slice F bl fc) bl ((nats ((busy v (all.take k)).map (·.2))).flatMap gI)) ∧ Hid (wr.ownsRow w2.heap.size 3 1 (.slice G bl gc) bl ((nats ((busy v (all.take k)).map (·.1))).flatMap gI)) ∧ Hid (Apt (.slice F bl fc) (.slice G bl gc)) ∧ Hid (Below w2.heap.size w2 wr)) (fun _ _ i _ => N - (intOf i).toNat)
  case atStart => exact ⟨0, 0, none, 0, none, 0, Nat.zero_le _, Nat.zero_le _, rfl, rfl, rfl, rfl, own0 _ _ _ _, own0 _ _ _ _, hid (fun b h => by cases h), hid (bnil _)⟩
  case round =>
    obtain ⟨k, bl, F, fc, G, gc, hk, hbl, rfl, HB, rfl, rfl, HF, HG, HAP, BR⟩ := hrel
    by_cases hlt : k < N
    · have j1 : (k : Int) < (N : Int) := by omega
      obtain ⟨ad, z, rfl, hz, cz⟩ := (HO.out.sl.below BR.out).ati hlt
      unfold nats at hz
      rw [List.getElem?_map] at hz
      obtain ⟨x, hx, rfl⟩ := Option.map_eq_some_iff.1 hz
      have hbs := busy_snoc v (all.take k) x
      rw [← take_next hx, List.length_take, HN.out, show min k N = k by omega] at hbs
      clear hz hx
      by_cases hxv : x = v
      · subst hxv
        rw [if_pos rfl] at hbs
        have HBS := hid hbs
        clear hbs
        go_wp2_with fail
        go_roundw
        case rel => exact ⟨k + 1, bl, F, fc, G, gc, by omega, by omega, by go_num, by rw [HBS.out]; exact HB, rfl, rfl, by rw [HBS.out]; exact HF, by rw [HBS.out]; exact HG, HAP, BR⟩
        case measure => simp [intOf]; omega
      · rw [if_neg hxv] at hbs
        have HBS := hid hbs
        have hb1 := hid (show nats ((busy v (all.take k)).map (·.2)) ++ [(x : Int)] = nats ((busy v (all.take (k + 1))).map (·.2)) by rw [HBS.out]; simp [nats])
        have hb2 := hid (show nats ((busy v (all.take k)).map (·.1)) ++ [(k : Int)] = nats ((busy v (all.take (k + 1))).map (·.1)) by rw [HBS.out]; simp [nats])
        have hb3 := hid (show (busy v (all.take (k + 1))).length = bl + 1 by rw [HBS.out, List.length_append, HB.out]; rfl)
        have l1 := hid (show (nats ((busy v (all.take k)).map (·.2))).length = bl by simp [nats, HB.out])
        have l2 := hid (show (nats ((busy v (all.take k)).map (·.1))).length = bl by simp [nats, HB.out])
        have l3 := hid (show (nats ((busy v (all.take (k + 1))).map (·.2))).length = bl + 1 by simp [nats, hb3.out])
        have l4 := hid (show (nats ((busy v (all.take (k + 1))).map (·.1))).length = bl + 1 by simp [nats, hb3.out])
        generalize nats ((busy v (all.take k)).map (·.2)) = fs at *
        generalize nats ((busy v (all.take k)).map (·.1)) = gs at *
        clear hbs
        have q1 : ((x : Int) != (v : Int)) = true := by simp; omega
        have q2 : ¬ (x : Int) = (v : Int) := by omega
        obtain ⟨yf, hyf⟩ : ∃ y, fs ++ [(x : Int)] = y := ⟨_, rfl⟩
        obtain ⟨yg, hyg⟩ : ∃ y, gs ++ [(k : Int)] = y := ⟨_, rfl⟩
        have hb1 := hid (hyf.symm.trans hb1.out); have hb2 := hid (hyg.symm.trans hb2.out)
        have l3 := hid (show yf.length = bl + 1 by rw [← hyf, List.length_append, l1.out]; rfl)
        have l4 := hid (show yg.length = bl + 1 by rw [← hyg, List.length_append, l2.out]; rfl)
        have HYF := hid hyf; have HYG := hid hyg
        clear hyf hyg
        have HBZ := hid BR.out.size
        rw [← l1.out] at HF
        rw [← l2.out] at HG
        have HF0 := hid HF.out; have HG0 := hid HG.out
        rw [l1.out] at HF; rw [l2.out] at HG
        rw [l1.out, show (bl : Nat) = bl from rfl] at HF0
        go_wp2_with (first
          | (at_builtin; (refine wpList_appC elmI gI_one rfl (.tmp 49) (.tmp 54) rfl (.slice F bl fc) fs rfl (by rw [l1.out]; exact own_below HF.out (bnew (bnil _) _)) [(x : Int)] yf HYF rfl (Sl.fresh' _ #[_] 3 1 1 _ (by simp) rfl) rfl (by rw [l3.out]; simp only [maxLen]; omega) (by rw [l3.out]; omega) (Nat.le_trans HBZ.out (bnew (bnil _) _).size) ?_; intro A4 c4 w4 hc4 hc5 HN4 HG4 HO4; have HGK := hid (own_keep HG.out (bnew (bnil _) _) HG4.out HAP.out.symm); have HAK := hid (apt_new HG.out HAP.out.symm (bnew (bnil _) _).size HO4.out).symm; have HBK := hid (below_app (bgo BR.out (bnew (bnil _) _)) (own_below HF.out (bnew (bnil _) _)) HG4.out (Nat.le_trans HBZ.out (bnew (bnil _) _).size))))
          | (at_builtin; (refine wpList_appC elmI gI_one rfl (.tmp 56) (.tmp 58) rfl (.slice G bl gc) gs rfl (by rw [l2.out]; exact own_below HGK.out (bnew (bnil _) _)) [(k : Int)] yg HYG rfl (Sl.fresh' _ #[_] 3 1 1 _ (by simp) rfl) rfl (by rw [l4.out]; simp only [maxLen]; omega) (by rw [l4.out]; omega) (Nat.le_trans HBK.out.size (bnew (bnil _) _).size) ?_; intro A5 c5 w5 hc6 hc7 HN5 HG5 HO5; have HFK := hid (own_keep HN4.out (bnew (bnil _) _) HG5.out HAK.out); have HA5 := hid (apt_new HN4.out HAK.out (bnew (bnil _) _).size HO5.out); have HB5 := hid (below_app (bgo HBK.out (bnew (bnil _) _)) (own_below HGK.out (bnew (bnil _) _)) HG5.out (Nat.le_trans HBK.out.size (bnew (bnil _) _).size)))))
        go_roundw
        case rel => exact ⟨k + 1, bl + 1, A4, c4, A5, c5, by omega, by omega, by go_num, hb3, by rw [l3.out], by rw [l4.out], hid (by have h := HFK.out; rw [l3.out, hb1.out] at h; exact h), hid (by have h := HN5.out; rw [l4.out, hb2.out] at h; exact h), hid (by have h := HA5.out; rw [l3.out, l4.out] at h; exact h), HB5⟩
        case measure => simp [intOf]; omega
    · obtain rfl : k = N := by omega
      have j1 : ¬ (k : Int) < (k : Int) := by omega
      have E := hid (show all.take k = all from List.take_of_length_le (by rw [HN.out]; exact Nat.le_refl _))
      rw [E.out] at HB HF HG
      have HXB := hid ((HX1.out.below' HO.out.below).below' BR.out)
      have HMB := hid ((HM1.out.below HO.out.below).below BR.out)
      have x0 : wr.cell? ⟨X, 0, none⟩ = some (.slice (some ⟨Wb, 0, none⟩) 8 8) := HXB.out.cell 0
      have x1 : wr.cell? ⟨X, 1, none⟩ = some (.slice (some ⟨Cb, 0, none⟩) 2 2) := HXB.out.cell 1
      have x2 : wr.cell? ⟨X, 2, none⟩ = some (.slice (some ⟨T, 0, none⟩) 3 3) := HXB.out.cell 2
      have HYS := hid (show ∀ y : List Int, [] ++ y = y from fun y => rfl)
      have HM2 := hid (ML.mach HMB.out (fun j hj => by
        unfold upd
        split
        · exact ⟨by simp, by simp⟩
        · exact mthr_th cs j hj))
      have BW := hid (bgo (bgo BTT.out HO.out.below) BR.out)
      have HT2 := hid (HT.out.below BW.out)
      have HMV := hid (show (machT ls ms (upd (mthr cs (min 12 cs.length)) v [])).threads[v]? = some [] by
        match v, hv with
        | 0, _ => rfl
        | 1, _ => rfl
        | 2, _ => rfl)
      have HM8 := hid (show (machT ls ms (upd (mthr cs (min 12 cs.length)) v [])).words.length = 8 from rfl)
      generalize machT ls ms (upd (mthr cs (min 12 cs.length)) v []) = m at *
      have ltX := World.block_lt_of_cell? wr _ x0
      obtain ⟨xs, hxs⟩ : ∃ xs, nats all = xs := ⟨_, rfl⟩
      have hyl : xs.length = k := by rw [← hxs]; simp [HN.out]
      have HXL := hid hyl
      have HSL := hid (show Sl wr 1 Al k (xs.flatMap gI) by rw [← hxs]; exact HO.out.sl.below BR.out)
      have HIS := hid (show ∀ (w' : World) (B c : Nat) (A' : Option Addr), w'.ownsRow B 3 1 (.slice A' xs.length c) xs.length (xs.flatMap gI) → Sl w' 1 A' xs.length (ints (all.map fun x : Nat => (x : Int))) from fun w' B c A' h => by have h2 := Sl.own h; rw [← hxs] at h2 ⊢; exact h2)
      clear hxs hyl
      go_wp2_with fail
      go_region_held3 (fun w' => Below wr.heap.size wr w' ∧ w'.cell? ⟨X, 0, none⟩ = some (.slice (some ⟨Wb, 0, none⟩) 8 8) ∧ w'.cell? ⟨X, 1, none⟩ = some (.slice (some ⟨Cb, 0, none⟩) 2 2) ∧ w'.cell? ⟨X, 2, none⟩ = some (.slice (some ⟨T, 0, none⟩) 3 3))
        ((refine sees3 ?_ x0 x1 x2; (repeat (first | assumption | exact (‹Below wr.heap.size wr _ ∧ _ ∧ _›).1 | exact bnil _ | refine Below.drew ?_ | refine bnew ?_ _))))
        (first
          | (refine step_appB elmI gI_one rfl (.const (.slice none 0 0)) (.tmp 62) rfl (.slice none 0 0) [] rfl (own0 _ wr.heap.size _ 1) xs xs (hid (HYS.out xs)) rfl (Sl.drew HSL.out) HXL.out (by rw [HXL.out]; simp only [maxLen]; omega) (by rw [HXL.out]; omega) (Nat.le_refl _) ?_; intro E8 c8 w8 hc8 hc9 HN8 HG8; have HB8 : Below wr.heap.size wr w8 := bgo (bnil wr).drew (grown_nil HG8.out))
          | (go_at_call 20; ((with_reducible refine (run_play _ _ _ _ 8 8 2 2 3 3 xs.length c8 m all w8 (by decide) (by decide) (by decide) (by rw [HXL.out]; omega) (HT2.out.below HB8) (HM2.out.1.below HB8) (HM2.out.2.below HB8) (HIS.out _ _ _ _ HN8.out) HLT.out).mono ?_); rintro e w9 hp9; obtain ⟨ev9, wv9, es9, rfl, HA9, HE9, HT9, HW9, b9⟩ := hp9; have HB9 := bgo HB8 b9)))
      all_goals
        have y0 := cell_below HB9 x0; have y1 := cell_below HB9 x1; have y2 := cell_below HB9 x2
        have HEV := hid (Evs.mk HA9 HT9)
        have HEE := hid HE9
        have HW := hid HW9
        have HBX := hid HB9
        have HF9 := hid (own_below HF.out HB9)
        have HG9 := hid (own_below HG.out HB9)
        have HT3 := hid (HT2.out.below HB9)
        have HM3 := hid (And.intro (HM2.out.1.below HB9) (HM2.out.2.below HB9))
        clear HN8 HG8 HB8 HA9 HE9 HT9 HW9 b9 HB9 ltX hc8 hc9 HIS HSL HXL HYS x0 x1 x2
        obtain ⟨few, hfew⟩ : ∃ few, (busy v all).map (·.2) = few := ⟨_, rfl⟩
        obtain ⟨was, hwas⟩ : ∃ was, (busy v all).map (·.1) = was := ⟨_, rfl⟩
        have hpi := play_idle m v all HMV.out (fun k => was.getD k 0) (fun k x hx => by rw [hwas] at hx; rw [List.getD_eq_getElem?_getD, hx]; rfl)
        rw [hfew] at hpi
        have hfl : ∀ x ∈ few, x < 3 := by
          intro x hx
          rw [← hfew] at hx
          obtain ⟨y, hy, rfl⟩ := List.mem_map.1 hx
          exact HLT.out _ (busy_lt v all y hy).2
        have hfn : few.length = bl := by rw [← hfew, List.length_map, HB.out]
        have hwn : was.length = bl := by rw [← hwas, List.length_map, HB.out]
        have hwl : ∀ x ∈ was, x < 400 := by
          intro x hx
          rw [← hwas] at hx
          obtain ⟨y, hy, rfl⟩ := List.mem_map.1 hx
          have := (busy_lt v all y hy).1
          have := HN.out
          omega
        rw [hfew] at HF9
        rw [hwas] at HG9
        have HPI := hid hpi; have HFL := hid hfl; have HFN := hid hfn; have HWN := hid hwn; have HWL := hid hwl
        clear hpi hfl hfn hwn hwl hfew hwas HF HG HB HAP
        go_wp2_with fail
        refine (run_play _ _ _ _ 8 8 2 2 3 3 bl fc m few w9 (by decide) (by decide) (by decide) (by omega) HT3.out HM3.out.1 HM3.out.2 (Sl.own HF9.out) HFL.out).mono ?_
        rintro e w10 hp10
        obtain ⟨ev10, wv10, es10, rfl, HA10, HE10, HT10, HW10, b10⟩ := hp10
        have HEQ := hid (show (play m all).evs = (play m few).evs.map (restep fun k => was.getD k 0) by rw [HPI.out]; rfl)
        have HEW := hid (show (play m all).words = (play m few).words by rw [HPI.out]; rfl)
        have HOK := hid (play_between m few)
        have hl1 := evs_len HEE.out
        have hl2 := evs_len HE10
        rw [HEQ.out, List.length_map, ← hl2] at hl1
        have HW := hid HW.out
        rw [HEW.out] at HW
        obtain ⟨A9, c9, rfl, hn9, hn9'⟩ := own_form HEV.out.row
        obtain ⟨Ay, cy, rfl, hny, hny'⟩ := own_form HA10
        obtain ⟨Aw9, cw9, rfl, _, _⟩ := own_form HW.out
        obtain ⟨Aw10, cw10, rfl, _, _⟩ := own_form HW10
        have hw8 := play_words m few
        rw [HM8.out] at hw8
        have HEVX := hid (HEV.out.below b10)
        have HEVY := hid (Evs.mk HA10 HT10)
        have HEY := hid HE10
        rw [← HE10] at HOK
        have HWX := hid (Sl.own (own_below HW.out b10))
        have HWY := hid (Sl.own HW10)
        have HG10 := hid (own_below HG9.out b10)
        have HT11 := hid (HT3.out.below b10)
        have BW10 := hid (bgo (bgo BW.out HBX.out) b10)
        have hB10 := HBX.out.size
        clear HA10 HE10 HT10 HW10 b10 HEV HW HF9 HG9 hl2 y0 y1 y2
        rw [hw8] at HWX HWY ⊢
        obtain ⟨L, hL⟩ : ∃ L, es10.length = L := ⟨_, rfl⟩
        rw [hL] at hl1 HEVY hny ⊢
        rw [hl1] at HEVX hn9 ⊢
        have HL9 := hid hl1; have HL10 := hid hL
        clear hl1 hL hw8
        unfold maxLen at hn9' hny'
        go_wp2_with fail
        refine (run_sure _ HT11.out).mono ?_
        rintro e w11 ⟨rfl, b11⟩
        have B11 := hid b11; clear b11
        go_wp2_with fail
        refine (same_ints Aw9 Aw10 8 cw9 cw10 (play m few).words _ (by decide) (HWX.out.below B11.out) (HWY.out.below B11.out)).mono ?_
        rintro e w12 ⟨rfl, b12⟩
        have B12 := hid (bgo B11.out b12); clear b12
        go_wp2_with fail
        go_loopw [23] (fun i wr => ∃ k : Nat, k ≤ L ∧ i = .int .i64 k ∧ Hid (Below w10.heap.size w10 wr)) (fun i _ => L - (intOf i).toNat)
        case atStart => exact ⟨0, Nat.zero_le _, rfl, B12⟩
        case round =>
          obtain ⟨k, hk, rfl, BR⟩ := hrel
          by_cases hlt : k < L
          · have j1 : (k : Int) < (L : Int) := by omega
            obtain ⟨y, hy1⟩ : ∃ y, es10[k]? = some y := ⟨_, List.getElem?_eq_getElem (by rw [HL10.out]; exact hlt)⟩
            obtain ⟨x, hx1⟩ : ∃ x, es9[k]? = some x := ⟨_, List.getElem?_eq_getElem (by rw [HL9.out]; exact hlt)⟩
            obtain ⟨by_, rfl, ⟨v0, v1, v2, v3, v4, v5⟩, vb, vs', vn⟩ := (HEVY.out.below BR.out).at_ hy1
            obtain ⟨b9, rfl, ⟨u0, u1, u2, u3, u4, u5⟩, ub, us', un⟩ := (HEVX.out.below BR.out).at_ hx1
            have hxy : x.1 = restep (fun k => was.getD k 0) y.1 := by
              have e1 : (play m all).evs[k]? = some x.1 := by rw [← HEE.out, List.getElem?_map, hx1]; rfl
              have e2 : (play m few).evs[k]? = some y.1 := by rw [← HEY.out, List.getElem?_map, hy1]; rfl
              rw [HEQ.out, List.getElem?_map, e2] at e1
              exact (Option.some.inj e1).symm
            have hat := (HOK.out k y.1 (by rw [List.getElem?_map, hy1]; rfl)).at_
            have hsl : y.1.step < bl := by have := (List.getElem?_eq_some_iff.1 hat).1; rw [HFN.out] at this; exact this
            rw [hxy] at u0 u1 u2 u3 u4 us'
            simp only [restep] at u0 u1 u2 u3 u4 us'
            obtain ⟨adG, zi, rfl, hz, cz⟩ := ((Sl.own HG10.out).below BR.out).ati hsl
            unfold nats at hz
            rw [List.getElem?_map] at hz
            obtain ⟨zs, hzs, rfl⟩ := Option.map_eq_some_iff.1 hz
            have hzl := HWL.out zs (List.mem_of_getElem? hzs)
            rw [show was.getD y.1.step 0 = zs by rw [List.getD_eq_getElem?_getD, hzs]; rfl] at u0
            have HUS := hid us'; have HVS := hid vs'
            clear hz hzs hat hxy hx1 hy1 us' vs'
            obtain ⟨⟨st, th, ca, fi, er, td⟩, ⟨Az, nz, cz'⟩⟩ := y
            simp only at v0 v1 v2 v3 v4 v5 u0 u1 u2 u3 u4 hsl cz HUS HVS vn
            have q0 : decide ((st : Int) < 0) = false := by simp
            have q1 : decide ((bl : Int) ≤ (st : Int)) = false := by simp; omega
            have q1n : decide (bl ≤ st) = false := by simp; omega
            have q2 : (st : Int) < (bl : Int) := by omega
            have lG := World.block_lt_of_cell? wr _ cz
            obtain ⟨bx, hbx⟩ : ∃ bx, wr.heap.size = bx := ⟨_, rfl⟩
            have HBX' := hid hbx
            have XB := hid (blkN wr 52 #[.int .i64 (zs : Int), .int .i64 (th : Int), .int .i64 (ca : Int), .bool fi, .int .i64 (er : Int), .slice Az nz cz'] bx hbx)
            have BN := hid (bnew (bnil wr) (.cells #[.int .i64 (zs : Int), .int .i64 (th : Int), .int .i64 (ca : Int), .bool fi, .int .i64 (er : Int), .slice Az nz cz'] 52))
            clear hbx
            go_wp2_with fail
            have hbx := HBX'.out
            rw [hbx] at ub vb ⊢
            generalize World.alloc wr _ = wy at *
            have u0 := cell_below BN.out u0; have u1 := cell_below BN.out u1; have u2 := cell_below BN.out u2
            have u3 := cell_below BN.out u3; have u4 := cell_below BN.out u4; have u5 := cell_below BN.out u5
            have w0 : wy.cell? ⟨bx, 0, none⟩ = some (.int .i64 (zs : Int)) := XB.out.cell 0
            have w1 : wy.cell? ⟨bx, 1, none⟩ = some (.int .i64 (th : Int)) := XB.out.cell 1
            have w2' : wy.cell? ⟨bx, 2, none⟩ = some (.int .i64 (ca : Int)) := XB.out.cell 2
            have w3 : wy.cell? ⟨bx, 3, none⟩ = some (.bool fi) := XB.out.cell 3
            have w4 : wy.cell? ⟨bx, 4, none⟩ = some (.int .i64 (er : Int)) := XB.out.cell 4
            have w5 : wy.cell? ⟨bx, 5, none⟩ = some (.slice Az nz cz') := XB.out.cell 5
            have HUY := hid (HUS.out.below BN.out); have HVY := hid (HVS.out.below BN.out)
            have un' : x.2.n ≤ 9223372036854775807 := by unfold maxLen at un; omega
            clear hbx v0 v1 v2 v3 v4 v5 cz lG
            go_region_held3 (fun w' => Below wy.heap.size wy w' ∧ w'.cell? ⟨b9, k * 6, none⟩ = some (.int .i64 (zs : Int)) ∧ w'.cell? ⟨b9, k * 6 + 1, none⟩ = some (.int .i64 (th : Int)) ∧ w'.cell? ⟨b9, k * 6 + 2, none⟩ = some (.int .i64 (ca : Int)) ∧ w'.cell? ⟨b9, k * 6 + 3, none⟩ = some (.bool fi) ∧ w'.cell? ⟨b9, k * 6 + 4, none⟩ = some (.int .i64 (er : Int)) ∧ w'.cell? ⟨b9, k * 6 + 5, none⟩ = some (x.2.v) ∧ w'.cell? ⟨bx, 0, none⟩ = some (.int .i64 (zs : Int)) ∧ w'.cell? ⟨bx, 1, none⟩ = some (.int .i64 (th : Int)) ∧ w'.cell? ⟨bx, 2, none⟩ = some (.int .i64 (ca : Int)) ∧ w'.cell? ⟨bx, 3, none⟩ = some (.bool fi) ∧ w'.cell? ⟨bx, 4, none⟩ = some (.int .i64 (er : Int)) ∧ w'.cell? ⟨bx, 5, none⟩ = some (.slice Az nz cz'))
              ((refine sees12 ?_ u0 u1 u2 u3 u4 u5 w0 w1 w2' w3 w4 w5; (repeat (first | assumption | exact HB13.out | exact bnil _ | refine Below.drew ?_ | refine bnew ?_ _))))
              (first
                | (go_at_call 22; ((with_reducible refine (same_event ⟨st, th, ca, fi, er, td⟩ x.2 ⟨Az, nz, cz'⟩ zs _ un' (Sl.drew HUY.out) (Sl.drew HVY.out)).mono ?_); rintro e w13 ⟨rfl, b13⟩; have HB13 := hid (bgo (bnil wy).drew b13); clear b13)))
            all_goals
              go_wp2
              go_roundw
              case rel => exact ⟨k + 1, by omega, by go_num, hid (bgo (bgo BR.out BN.out) HB13.out)⟩
              case measure => simp [intOf]; omega
          · obtain rfl : k = L := by omega
            have j1 : ¬ (k : Int) < (k : Int) := by omega
            go_wp2
            go_ret
            exact ⟨rfl, bgo BW10.out BR.out⟩
end Go.Proofs.YtljdnbdmfhcmpaaDoor
