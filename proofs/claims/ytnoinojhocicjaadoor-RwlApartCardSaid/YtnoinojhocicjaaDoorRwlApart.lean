/-
  RwlApart: its walk. Written by gen_rwla.py.
-/
import Derived.Test.YtnoinojhocicjaaDoorRwlMach
import Derived.Test.YtnoinojhocicjaaDoorSemaMost
namespace Go.Proofs.YtnoinojhocicjaaDoor
open Go.RowKit
set_option linter.unusedVariables false

theorem rwl_len (kd : Nat → Nat → Bool) (work : Nat) : ∀ calls ∈ (rwlMach kd work).threads, calls.length ≤ 18 := by
  intro calls h
  unfold rwlMach at h
  simp only at h
  obtain ⟨u, hu, rfl⟩ := List.mem_map.1 h
  rw [wrows_len]; omega
theorem wrows_get (kd : Nat → Nat → Bool) (n : Nat) : ∀ r c, c < 3 * r → ∃ v, (wrows kd n r)[c]? = some v := fun r c h => ⟨_, List.getElem?_eq_getElem (by rw [wrows_len]; exact h)⟩
/-- the code of a call, in memory -/
theorem rwl_codeAt {B : Nat} {w : World} {Cb T : Nat} {cv tv : Nat → Value} {ks : Nat → List Op5} {av : Nat → List SV} {kd : Nat → Nat → Bool} (h : MN B w 5 4 Cb T cv ks tv (fun j => wrows kd j 6) av) {t c : Nat} (ht : t < 4) (hc : c < 18) (h3 : c % 3 = 0) :
    ∃ (bt ct : Nat), w.cell? ⟨T, t, none⟩ = some (.slice (some ⟨bt, 0, none⟩) 18 ct) ∧ w.cell? ⟨bt, c * 2, none⟩ = some (.int .i64 (if kd t (c / 3) then 2 else 0)) := by
  obtain ⟨r1, r2, _⟩ := h.rows t ht
  rw [wrows_len] at r1 r2
  obtain ⟨A, c', e, _⟩ := own_form r2
  rw [e] at r2
  obtain ⟨b, c'', e2, _, hcell⟩ := own_at r2 (by omega)
  injection e2 with e2 e3 e4
  subst e2
  obtain ⟨v, hv⟩ := wrows_get kd t 6 c (by omega)
  have hv2 := wrows_at kd t 6 c v hv
  have hl : c < (av t).length := by rw [r1]; omega
  have hz : ((wrows kd t 6).zip (av t))[c]? = some (v, (av t)[c]) := by
    rw [List.getElem?_zip_eq_some]
    exact ⟨hv, List.getElem?_eq_getElem hl⟩
  have hcl := hcell (c * 2) _ (by have h := flatMap_at gS 2 (fun _ => rfl) _ c 0 _ hz (by decide); rw [Nat.add_zero] at h; rw [h]; rfl)
  refine ⟨b, c', by rw [h.tb.cell t, arrN_at tv ht, e], ?_⟩
  rw [hcl, hv2]
  unfold wcode
  rw [if_pos h3]
  cases kd t (c / 3) <;> rfl
set_option maxHeartbeats 8000000 in
set_option maxRecDepth 100000 in
theorem law_rwlApart (Ak : Option Addr) (nk ck : Nat) (ks : List Bool) (xw : Int) (S : Option Addr) (p q : Nat) (bs : List UInt8) (w : World) (hk1 : nk ≤ ck) (hk2 : ck ≤ maxLen) (_ : ck * 1 ≤ 140737488351232) (hks : Sl w 1 Ak nk (ks.flatMap fun b : Bool => [Value.bool b])) (_ : True)
    (hb : -9223372036854775808 ≤ xw) (hb1 : xw ≤ 9223372036854775807) (hp : p ≤ q) (hq : q ≤ maxLen) (_ : q * 1 ≤ 140737488351232) (hS : Sl w 1 S p (byts bs)) (hT : STab w) :
    Calls Tryd.prog 10 #[.slice Ak nk ck, .int .i64 xw, .slice S p q] w fun e w' => e = .returned (.bool true) ∧ Below w.heap.size w w' := by
  have HS := hid hS; have HT := hid hT; have HK := hid hks
  clear hS hT hks
  have hpl : p ≤ 9223372036854775807 := by unfold maxLen at hq; omega
  have hkl : nk ≤ 9223372036854775807 := by unfold maxLen at hk2; omega
  clear hq hk1 hk2
  have k1 := pk_lt xw 30 (by decide)
  obtain ⟨wk, hwk⟩ : ∃ wk : Nat, wrap64 (1 + (pk xw 30 : Int)) = (wk : Int) ∧ wk = 1 + pk xw 30 := ⟨1 + pk xw 30, by rw [wrap_sm (by omega) (by omega)]; omega, rfl⟩
  have hwk1 : 1 ≤ wk := by omega
  have hwk40 : wk ≤ 40 := by omega
  have HWK := hid hwk.1
  clear hwk k1
  go_enter Tryd.func10, Tryd.ntmps10
  go_wp2_with fail
  refine (picked xw 30 w (by decide) hb hb1 (by decide)).mono ?_
  rintro e w' ⟨rfl, rfl⟩
  go_wp2_with fail
  rw [HWK.out]
  refine (rwl_machine Ak nk ck ks wk w hkl HK.out hwk1 hwk40 HT.out).mono ?_
  rintro e w1 hp1
  obtain ⟨AW, cW, Cb, T, cv, tv, av, rfl, hW, hM, b1⟩ := hp1
  have HM := hid hM; have B1 := hid b1; have HW := hid hW
  clear hM b1 hW
  obtain ⟨X, hX⟩ : ∃ X, w1.heap.size = X := ⟨_, rfl⟩
  go_upto_region 2 with fail
  have HX0 := hid (blkN w1 27 #[.slice AW 1 cW, .slice (some ⟨Cb, 0, none⟩) 5 5, .slice (some ⟨T, 0, none⟩) 4 4] X hX)
  have BA := hid (bgo B1.out (bnew (bnil w1) (.cells #[.slice AW 1 cW, .slice (some ⟨Cb, 0, none⟩) 5 5, .slice (some ⟨T, 0, none⟩) 4 4] 27)))
  have HMN := hid (HM.out.below (bnew (bnil w1) (.cells #[.slice AW 1 cW, .slice (some ⟨Cb, 0, none⟩) 5 5, .slice (some ⟨T, 0, none⟩) 4 4] 27)))
  have HMA := hid (rwl_at (m := rwlMach (kdOf ks) wk) (kd := kdOf ks) HMN.out (by omega) rfl rfl (fun j hj => ⟨by show (wrows (kdOf ks) j 6).length ≤ 20; rw [wrows_len]; omega, wrows_mem (kdOf ks) j 6⟩))
  have HWA := hid (own_below HW.out (bnew (bnil w1) (.cells #[.slice AW 1 cW, .slice (some ⟨Cb, 0, none⟩) 5 5, .slice (some ⟨T, 0, none⟩) 4 4] 27)))
  generalize World.alloc w1 _ = wA at *
  clear hX HM HW
  have y0 : wA.cell? ⟨X, 0, none⟩ = some (.slice AW 1 cW) := HX0.out.cell 0
  have y1 : wA.cell? ⟨X, 1, none⟩ = some (.slice (some ⟨Cb, 0, none⟩) 5 5) := HX0.out.cell 1
  have y2 : wA.cell? ⟨X, 2, none⟩ = some (.slice (some ⟨T, 0, none⟩) 4 4) := HX0.out.cell 2
  refine wp_region_held_drew (S := (fun w' => w'.cell? ⟨X, 0, none⟩ = some (.slice AW 1 cW) ∧ w'.cell? ⟨X, 1, none⟩ = some (.slice (some ⟨Cb, 0, none⟩) 5 5) ∧ w'.cell? ⟨X, 2, none⟩ = some (.slice (some ⟨T, 0, none⟩) 4 4))) (by kernel_rfl) ?_ (fun hHeld => ?_)
  · (try dsimp only); (first | assumption | exact ⟨y0, y1, y2⟩ | exact ⟨z0, z1, z2⟩ | exact ⟨u0, u1, u2⟩)
  refine wpAnyH_take (i := 0) (oi := ⟨some 25, _, _, _, _, _⟩) (v := ?_) rfl (by kernel_rfl) (by kernel_rfl) (by kernel_rfl) (fun _ _ _ h => h) (Or.inl ⟨by rfl, ?_⟩) (by assumption) ?_
  rotate_left
  · intro w hSw; (try dsimp only at hSw); go_simp <;> with_reducible rfl
  try simp only [Act.put, List.setIfInBounds_toArray, List.set_cons_zero, List.set_cons_succ]
  refine wpAnyH_take (i := 1) (oi := ⟨some 26, _, _, _, _, _⟩) (v := ?_) rfl (by kernel_rfl) (by kernel_rfl) (by kernel_rfl) (fun _ _ _ h => h) (Or.inl ⟨by rfl, ?_⟩) (by assumption) ?_
  rotate_left
  · intro w hSw; (try dsimp only at hSw); go_simp <;> with_reducible rfl
  try simp only [Act.put, List.setIfInBounds_toArray, List.set_cons_zero, List.set_cons_succ]
  refine wpAnyH_ready (rs := [2]) (by kernel_rfl) (by simp) ?_
  refine AllReadyH.cons (o := ⟨some 27, _, _, _, _, _⟩) rfl (fun K hK => ?_) AllReadyH.nil
  go_simp
  refine (schedule_n S p q 4 3000 bs _ hpl (by decide) (by decide) (by decide) (HS.out.below (bgo BA.out (bnil wA).drew))).mono ?_; rintro e w2 ⟨v, rfl, ho⟩; have hl4 : (schedN bs 4 3000).length ≤ 3000 := (by have := schedN_len bs 4 3000; omega); have HLT := hid (schedN_lt bs (N := 4) (by decide) 3000); generalize schedN bs 4 3000 = all at *; obtain ⟨Al, cl, rfl, hcl, hcl2⟩ := ho.form; have HO := hid ho; clear ho; rw [show (nats all).length = all.length by simp] at *; unfold maxLen at hcl2; obtain ⟨N, hN⟩ : ∃ N, all.length = N := ⟨_, rfl⟩; rw [hN] at HO hl4 hcl ⊢; have HN := hid hN; clear hN; have BS := hid (bgo (bnil wA).drew HO.out.below); obtain ⟨z0, z1, z2⟩ := cells3 BS.out y0 y1 y2
  go_wp2_with fail
  refine hK.out _ _ ?_ (fun hHeld => ?_)
  · (try dsimp only); (first | assumption | exact ⟨y0, y1, y2⟩ | exact ⟨z0, z1, z2⟩ | exact ⟨u0, u1, u2⟩)
  clear hK K
  try simp only [Act.put, List.setIfInBounds_toArray, List.set_cons_zero, List.set_cons_succ]
  refine wpAnyH_ready (rs := [3]) (by kernel_rfl) (by simp) ?_
  refine AllReadyH.cons (o := ⟨some 28, _, _, _, _, _⟩) rfl (fun K hK => ?_) AllReadyH.nil
  go_simp
  have HWS := hid (show Sl w2 1 AW 1 (ints ([0] : List Int)) from Sl.own (own_below HWA.out BS.out)); have HNE := hid (rwl_play (kdOf ks) wk all).2; have HMB := hid (HMA.out.below BS.out); refine (ran_of AW (some ⟨Cb, 0, none⟩) (some ⟨T, 0, none⟩) Al 1 cW 5 5 4 4 N cl (rwlMach (kdOf ks) wk) all w2 (by decide) (by decide) (by decide) (by omega) hcl (HT.out.below (bgo BA.out BS.out)) HMB.out HWS.out HO.out.sl HLT.out HNE.out (play_fin _ all)).mono ?_; rintro e w3 hp3; obtain ⟨v3, rs, rfl, hrow, hrs, htold, b3⟩ := hp3; obtain ⟨A3, c3, rfl, hc3, hc3'⟩ := own_form hrow; obtain ⟨LD, hLD⟩ : ∃ LD, rs.length = LD := ⟨_, rfl⟩; rw [hLD] at hrow hc3 ⊢; have HD := hid (DsAt.mk hLD hrow htold); have HRS := hid hrs; have B3 := hid (bgo BS.out b3); clear hrow htold hrs b3 hLD; obtain ⟨u0, u1, u2⟩ := cells3 B3.out y0 y1 y2
  go_wp2_with fail
  refine hK.out _ _ ?_ (fun hHeld => ?_)
  · (try dsimp only); (first | assumption | exact ⟨y0, y1, y2⟩ | exact ⟨z0, z1, z2⟩ | exact ⟨u0, u1, u2⟩)
  clear hK K
  try simp only [Act.put, List.setIfInBounds_toArray, List.set_cons_zero, List.set_cons_succ]
  refine wpAnyH_take (i := 4) (oi := ⟨some 24, _, _, _, _, _⟩) (v := ?_) rfl (by kernel_rfl) (by kernel_rfl) (by kernel_rfl) (fun _ _ _ h => h) (Or.inl ⟨by rfl, ?_⟩) (by assumption) ?_
  rotate_left
  · intro w hSw; (try dsimp only at hSw); go_simp <;> with_reducible rfl
  try simp only [Act.put, List.setIfInBounds_toArray, List.set_cons_zero, List.set_cons_succ]
  refine wpAnyH_take (i := 5) (oi := ⟨some 29, _, _, _, _, _⟩) (v := ?_) rfl (by kernel_rfl) (by kernel_rfl) (by kernel_rfl) (fun _ _ _ h => h) (Or.inl ⟨by rfl, ?_⟩) (by assumption) ?_
  rotate_left
  · intro w hSw; (try dsimp only at hSw); go_simp <;> with_reducible rfl
  try simp only [Act.put, List.setIfInBounds_toArray, List.set_cons_zero, List.set_cons_succ]
  refine wpAnyH_take (i := 6) (oi := ⟨some 30, _, _, _, _, _⟩) (v := ?_) rfl (by kernel_rfl) (by kernel_rfl) (by kernel_rfl) (fun _ _ _ h => h) (Or.inl ⟨by rfl, ?_⟩) (by assumption) ?_
  rotate_left
  · intro w hSw; (try dsimp only at hSw); go_simp <;> with_reducible rfl
  try simp only [Act.put, List.setIfInBounds_toArray, List.set_cons_zero, List.set_cons_succ]
  refine wpAnyH_take (i := 7) (oi := ⟨some 9, _, _, _, _, _⟩) (v := ?_) rfl (by kernel_rfl) (by kernel_rfl) (by kernel_rfl) (fun _ _ _ h => h) (Or.inl ⟨by rfl, ?_⟩) (by assumption) ?_
  rotate_left
  · intro w hSw; (try dsimp only at hSw); go_simp <;> with_reducible rfl
  try simp only [Act.put, List.setIfInBounds_toArray, List.set_cons_zero, List.set_cons_succ]
  refine wpAnyH_take (i := 8) (oi := ⟨some 10, _, _, _, _, _⟩) (v := ?_) rfl (by kernel_rfl) (by kernel_rfl) (by kernel_rfl) (fun _ _ _ h => h) (Or.inl ⟨by rfl, ?_⟩) (by assumption) ?_
  rotate_left
  · intro w hSw; (try dsimp only at hSw); go_simp <;> with_reducible rfl
  try simp only [Act.put, List.setIfInBounds_toArray, List.set_cons_zero, List.set_cons_succ]
  refine wpAnyH_done (by kernel_rfl) ?_ _
  rotate_left
  have B03 := hid (bgo BA.out B3.out)
  have HM3 := hid (HMN.out.below B3.out)
  have HX3 := hid (HX0.out.below' B3.out)
  clear hHeld
  clear z0 z1 z2 u0 u1 u2 y0 y1 y2 HX0 HMA HWA BA HO HWS HMB BS HMN
  have HMOST := hid (fun T hT => rwl_apart (kdOf ks) wk all T hT)
  have HTIME := hid (play_di (rwlMach (kdOf ks) wk) all).time
  have HC := hid (fun (k : Nat) (d : Dg) hk => play_c (m := rwlMach (kdOf ks) wk) (N := 18) (rwl_len (kdOf ks) wk) all (k := k) (d := d) hk)
  have hmt : (rwlMach (kdOf ks) wk).threads.length = 4 := rfl
  rw [hmt] at HC
  rw [← HRS.out] at HMOST HTIME HC
  clear HRS HNE hmt
  obtain ⟨kd, hkd⟩ : ∃ kd, kdOf ks = kd := ⟨_, rfl⟩
  rw [hkd] at HMOST HM3
  clear hkd
  unfold maxLen at hc3'
  go_wp2_with fail
  go_loopw [11] (fun i wr => ∃ k : Nat, k ≤ LD ∧ i = .int .i64 k ∧ Hid (Below w3.heap.size w3 wr)) (fun i _ => LD - (intOf i).toNat)
  case atStart => exact ⟨0, Nat.zero_le _, rfl, hid (bnil _)⟩
  case round =>
    obtain ⟨k, hk, rfl, BR⟩ := hrel
    by_cases hlt : k < LD
    · have j1 : (k : Int) < (LD : Int) := by omega
      obtain ⟨b9, d, At, ct, rfl, hd, lt9, u0, u1, u2, u3, u4, ut⟩ := (HD.out.below BR.out).at_ hlt
      have HDk := hid hd
      obtain ⟨hc18, _⟩ := HC.out k d hd
      obtain ⟨r, hr⟩ : ∃ r, d.c % 3 = r := ⟨_, rfl⟩
      have em : (d.c : Int).tmod 3 = (r : Int) := by rw [Int.tmod_eq_emod_of_nonneg (by omega), ← hr]; omega
      clear hd ut hr
      by_cases hr0 : r = 0
      · cases he : d.e with
        | none =>
          subst hr0
          have e1 : eI d.e = -1 := by rw [he]; rfl
          rw [e1] at u1
          clear e1 he
          go_wp2_with fail
          go_roundw
          case rel => exact ⟨k + 1, by omega, by go_num, BR⟩
          case measure => simp [intOf]; omega
        | some e =>
          subst hr0
          have e1 : eI d.e = (e : Int) := by rw [he]; rfl
          rw [e1] at u1
          have hel := ((HTIME.out k d HDk.out).2 e he).2
          have hmost := HMOST.out (e + 1) hel
          have HMO := hid hmost
          rw [HN.out] at hel
          have en : ¬ ((e : Int) = -1) := by omega
          clear e1 he hmost
          go_wp2_with fail
          have enb : ((e : Int) == -1) = false := beqF (by omega)
          rw [enb]
          clear enb
          go_loopw [13, 14, 15] (fun o v i wz => ∃ (j q z : Nat), j ≤ LD ∧ q ≤ j ∧ z ≤ j ∧ i = .int .i64 j ∧ o = .int .i64 q ∧ v = .int .i64 z ∧ Hid (q = (((rs.map (·.1)).take j).filter (isin (rs.map (·.1)) (e + 1))).length) ∧ Hid (z = (((rs.map (·.1)).take j).filter (wisin kd (rs.map (·.1)) (e + 1))).length) ∧ Hid (Below w3.heap.size w3 wz)) (fun _ _ i _ => LD - (intOf i).toNat)
          case atStart => exact ⟨0, 0, 0, Nat.zero_le _, Nat.le_refl _, Nat.le_refl _, rfl, rfl, rfl, hid rfl, hid rfl, BR⟩
          case round =>
            clear u0 u1 u2 u3 u4 BR lt9
            obtain ⟨j, q, z, hj, hqj, hzj, rfl, rfl, rfl, HQ, HZ, BZ⟩ := hrel
            by_cases hlt2 : j < LD
            · have j2 : (j : Int) < (LD : Int) := by omega
              obtain ⟨b10, d2, At2, ct2, hb10, hd2, lt10, z0, z1, z2, z3, z4, zt⟩ := (HD.out.below BZ.out).at_ hlt2
              injection hb10 with hb10; injection hb10 with hb10 _ _
              subst hb10
              have HD2 := hid hd2
              obtain ⟨hc18b, ht4b⟩ := HC.out j d2 hd2
              have hft := filter_take (P := isin (rs.map (·.1)) (e + 1)) hd2
              have hfw := filter_take (P := wisin kd (rs.map (·.1)) (e + 1)) hd2
              rw [← HQ.out] at hft
              rw [← HZ.out] at hfw
              have HFT := hid hft; have HFW := hid hfw
              obtain ⟨r2, hr2⟩ : ∃ r2, d2.c % 3 = r2 := ⟨_, rfl⟩
              have HR2 := hid hr2
              have em2 : (d2.c : Int).tmod 3 = (r2 : Int) := by rw [Int.tmod_eq_emod_of_nonneg (by omega), ← hr2]; omega
              clear hd2 zt hr2 hft hfw
              have hno : isin (rs.map (·.1)) (e + 1) d2 = false → Hid (q = (((rs.map (·.1)).take (j + 1)).filter (isin (rs.map (·.1)) (e + 1))).length) ∧ Hid (z = (((rs.map (·.1)).take (j + 1)).filter (wisin kd (rs.map (·.1)) (e + 1))).length) := fun h => ⟨hid (by rw [HFT.out, h]; rfl), hid (by rw [HFW.out]; unfold wisin; rw [h]; rfl)⟩
              have hyes : isin (rs.map (·.1)) (e + 1) d2 = true → Hid (q + 1 = (((rs.map (·.1)).take (j + 1)).filter (isin (rs.map (·.1)) (e + 1))).length) ∧ (kd d2.t (d2.c / 3) = true → Hid (z + 1 = (((rs.map (·.1)).take (j + 1)).filter (wisin kd (rs.map (·.1)) (e + 1))).length)) ∧ (kd d2.t (d2.c / 3) = false → Hid (z = (((rs.map (·.1)).take (j + 1)).filter (wisin kd (rs.map (·.1)) (e + 1))).length)) := fun h => ⟨hid (by rw [HFT.out, h]; rfl), fun h2 => hid (by rw [HFW.out]; unfold wisin; rw [h, h2]; rfl), fun h2 => hid (by rw [HFW.out]; unfold wisin; rw [h, h2]; rfl)⟩
              have HNO := hid hno; have HYES := hid hyes
              clear hno hyes HFT HFW
              by_cases hr20 : r2 = 0
              · subst hr20
                cases he2 : d2.e with
                | none =>
                  obtain ⟨HN1, HM1⟩ := HNO.out (Bool.eq_false_iff.2 fun h => by obtain ⟨e3, h1, _⟩ := (isin_iff.1 h).2.1; rw [he2] at h1; cases h1)
                  have e1 : eI d2.e = -1 := by rw [he2]; rfl
                  rw [e1] at z1
                  clear e1 he2
                  go_wp2_with fail
                  go_roundw
                  case rel => first | exact ⟨j + 1, q, z, by omega, by omega, by omega, by go_num, by go_num, by go_num, HN1, HM1, BZ⟩ | exact ⟨j + 1, by omega, q, by omega, z, by omega, by go_num, by go_num, by go_num, HN1, HM1⟩ | (trace_state; fail)
                  case measure => simp [intOf]; omega
                | some e2 =>
                  have HE2 := hid he2
                  have e1 : eI d2.e = (e2 : Int) := by rw [he2]; rfl
                  rw [e1] at z1
                  have en2 : ¬ ((e2 : Int) = -1) := by omega
                  have hel2 := ((HTIME.out j d2 HD2.out).2 e2 he2).2
                  rw [HN.out] at hel2
                  clear e1 he2
                  by_cases hlt3 : e2 < e + 1
                  · have i3 : (e2 : Int) < (e : Int) + 1 := by omega
                    go_wp2_with fail
                    have HL := leaves_of w2.heap.size (some ⟨b9, 0, none⟩) LD c3 rs d2 (.slice At2 d2.told.length ct2) wr (by omega) (by omega) (HD.out.below BZ.out)
                    rw [show eI d2.e = (e2 : Int) by rw [HE2.out]; rfl] at HL
                    refine HL.mono ?_
                    clear HL
                    rintro e4 w5 ⟨rfl, b5⟩
                    have BZ := hid (bgo BZ.out b5)
                    have z2' : w5.cell? ⟨b9, j * 5 + 2, none⟩ = some (.int .i64 (d2.t : Int)) := cell_below b5 z2
                    have z3' : w5.cell? ⟨b9, j * 5 + 3, none⟩ = some (.int .i64 (d2.c : Int)) := cell_below b5 z3
                    clear b5 z0 z1 z2 z3 z4 lt10
                    obtain ⟨L, hL⟩ : ∃ L, leavesOf (rs.map (·.1)) d2 = L := ⟨_, rfl⟩
                    have HLL := hid hL
                    rw [hL]
                    clear hL
                    by_cases hL4 : e + 1 < L
                    · have i4 : (e : Int) + 1 < (L : Int) := by omega
                      obtain ⟨HN1, HY1, HY2⟩ := HYES.out (isin_iff.2 ⟨HR2.out, ⟨e2, HE2.out, hlt3⟩, by rw [HLL.out]; exact hL4⟩)
                      have HY1 := hid HY1; have HY2 := hid HY2
                      obtain ⟨bt, cth, t0, t1⟩ := rwl_codeAt (HM3.out.below BZ.out) ht4b hc18b HR2.out
                      have y2 : w5.cell? ⟨X, 2, none⟩ = some (.slice (some ⟨T, 0, none⟩) 4 4) := (HX3.out.below' BZ.out).cell 2
                      have it4 : (d2.t : Int) < 4 := by omega
                      have ic18 : (d2.c : Int) < 18 := by omega
                      clear HLL HNO
                      cases hkd : kd d2.t (d2.c / 3) with
                      | true =>
                        have HM1 := HY1.out hkd
                        rw [hkd] at t1
                        simp only [if_true] at t1
                        clear hkd
                        go_wp2_with fail
                        go_quiet (fail)
                        go_wp2_with fail
                        have BZ := hid (below_drewN BZ.out nq)
                        go_roundw
                        case rel => first | exact ⟨j + 1, q + 1, z + 1, by omega, by omega, by omega, by go_num, by go_num, by go_num, HN1, HM1, BZ⟩ | exact ⟨j + 1, by omega, q + 1, by omega, z + 1, by omega, by go_num, by go_num, by go_num, HN1, HM1⟩ | (trace_state; fail)
                        case measure => simp [intOf]; omega
                      | false =>
                        have HM1 := HY2.out hkd
                        rw [hkd] at t1
                        simp only [Bool.false_eq_true, if_false] at t1
                        clear hkd
                        go_wp2_with fail
                        go_quiet (fail)
                        go_wp2_with fail
                        have BZ := hid (below_drewN BZ.out nq)
                        go_roundw
                        case rel => first | exact ⟨j + 1, q + 1, z, by omega, by omega, by omega, by go_num, by go_num, by go_num, HN1, HM1, BZ⟩ | exact ⟨j + 1, by omega, q + 1, by omega, z, by omega, by go_num, by go_num, by go_num, HN1, HM1⟩ | (trace_state; fail)
                        case measure => simp [intOf]; omega
                    · have i4 : ¬ ((e : Int) + 1 < (L : Int)) := by omega
                      obtain ⟨HN1, HM1⟩ := HNO.out (Bool.eq_false_iff.2 fun h => by have h1 := (isin_iff.1 h).2.2; rw [HLL.out] at h1; exact hL4 h1)
                      clear HLL HNO HYES
                      go_wp2_with fail
                      go_roundw
                      case rel => first | exact ⟨j + 1, q, z, by omega, by omega, by omega, by go_num, by go_num, by go_num, HN1, HM1, BZ⟩ | exact ⟨j + 1, by omega, q, by omega, z, by omega, by go_num, by go_num, by go_num, HN1, HM1⟩ | (trace_state; fail)
                      case measure => simp [intOf]; omega
                  · have i3 : ¬ (e2 : Int) < (e : Int) + 1 := by omega
                    obtain ⟨HN1, HM1⟩ := HNO.out (Bool.eq_false_iff.2 fun h => by obtain ⟨e3, h1, h2⟩ := (isin_iff.1 h).2.1; rw [HE2.out] at h1; injection h1 with h1; omega)
                    go_wp2_with fail
                    go_roundw
                    case rel => first | exact ⟨j + 1, q, z, by omega, by omega, by omega, by go_num, by go_num, by go_num, HN1, HM1, BZ⟩ | exact ⟨j + 1, by omega, q, by omega, z, by omega, by go_num, by go_num, by go_num, HN1, HM1⟩ | (trace_state; fail)
                    case measure => simp [intOf]; omega
              · have e1 : ¬ ((r2 : Int) = 0) := by omega
                obtain ⟨HN1, HM1⟩ := HNO.out (Bool.eq_false_iff.2 fun h => hr20 (by rw [← HR2.out]; exact (isin_iff.1 h).1))
                go_wp2_with fail
                go_roundw
                case rel => first | exact ⟨j + 1, q, z, by omega, by omega, by omega, by go_num, by go_num, by go_num, HN1, HM1, BZ⟩ | exact ⟨j + 1, by omega, q, by omega, z, by omega, by go_num, by go_num, by go_num, HN1, HM1⟩ | (trace_state; fail)
                case measure => simp [intOf]; omega
            · obtain rfl : j = LD := by omega
              have j2 : ¬ (j : Int) < (j : Int) := by omega
              have hqR : z = 0 ∨ (z = 1 ∧ q ≤ 1) := by
                have h1 := HMO.out
                rw [HZ.out, HQ.out, List.take_of_length_le (by rw [List.length_map, HD.out.len]; exact Nat.le_refl _)]
                rcases h1 with h1 | ⟨h1, h2⟩
                · exact .inl h1
                · rcases Nat.eq_zero_or_pos ((rs.map (·.1)).filter (wisin kd (rs.map (·.1)) (e + 1))).length with h0 | h0
                  · exact .inl h0
                  · exact .inr ⟨by omega, h2⟩
              clear HZ HQ
              rcases hqR with rfl | ⟨rfl, hq1⟩
              · go_wp2_with fail
                go_roundw
                case rel => exact ⟨k + 1, by omega, by go_num, BZ⟩
                case measure => simp [intOf]; omega
              · have i5 : ¬ ((1 : Int) < (q : Int)) := by omega
                go_wp2_with fail
                go_roundw
                case rel => exact ⟨k + 1, by omega, by go_num, BZ⟩
                case measure => simp [intOf]; omega
      · have e1 : ¬ ((r : Int) = 0) := by omega
        go_wp2_with fail
        go_roundw
        case rel => exact ⟨k + 1, by omega, by go_num, BR⟩
        case measure => simp [intOf]; omega
    · obtain rfl : k = LD := by omega
      have j1 : ¬ (k : Int) < (k : Int) := by omega
      go_wp2_with fail
      go_ret
      exact ⟨rfl, bgo B03.out BR.out⟩
end Go.Proofs.YtnoinojhocicjaaDoor
