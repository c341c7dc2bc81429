/-
  BarrTogether: its walk. Written by gen_barrt.py.
-/
import Derived.Test.YtnoinojhocicjaaDoorBarrMach
import Derived.Test.YtnoinojhocicjaaDoorSemaMost
namespace Go.Proofs.YtnoinojhocicjaaDoor
open Go.RowKit
set_option linter.unusedVariables false

/-- how many calls a thread has -/
def bLL (often work : Nat) : Nat := if work = 0 then often else 2 * often
theorem brows_ll (work t : Nat) : ∀ r, (brows work t r).length = bLL r work
  | 0 => by unfold bLL; split <;> rfl
  | r + 1 => by
    rw [brows, List.length_append, brows_ll work t r]
    unfold bLL bround
    by_cases h : work = 0
    · rw [if_pos h, if_pos h, if_neg (by omega)]; rfl
    · rw [if_neg h, if_neg h, if_pos (by omega)]; simp; omega
theorem barr_len (n often work : Nat) : ∀ calls ∈ (barrMach n often work).threads, calls.length ≤ bLL often work := by
  intro calls h
  unfold barrMach at h
  simp only at h
  obtain ⟨u, hu, rfl⟩ := List.mem_map.1 h
  rw [brows_ll]
  exact Nat.le_refl _
/-- the code of a call, in memory -/
theorem barr_codeAt {B : Nat} {w : World} {n nc often work T : Nat} {cvv : Value} {cv tv : Nat → Value} {ks : Nat → List Op5} {av : Nat → List SV} (h : MG B w nc n cvv T cv ks tv (fun j => brows work j often) av) {t c : Nat} (ht : t < n) (hc : c < bLL often work) :
    ∃ (bt ct : Nat), w.cell? ⟨T, t, none⟩ = some (.slice (some ⟨bt, 0, none⟩) (bLL often work) ct) ∧ w.cell? ⟨bt, c * 2, none⟩ = some (.int .i64 ((if iw work c then 0 else 1 + t : Nat) : Int)) := by
  obtain ⟨r1, r2, _⟩ := h.rows t ht
  rw [brows_ll] at r1 r2
  obtain ⟨A, c', e, _⟩ := own_form r2
  rw [e] at r2
  obtain ⟨b, c'', e2, _, hcell⟩ := own_at r2 (by omega)
  injection e2 with e2 e3 e4
  subst e2
  obtain ⟨v, hv⟩ : ∃ v, (brows work t often)[c]? = some v := ⟨_, List.getElem?_eq_getElem (by rw [brows_ll]; exact hc)⟩
  have hv2 := (brows_at work t often c v hv).1
  have hl : c < (av t).length := by rw [r1]; omega
  have hz : ((brows work t often).zip (av t))[c]? = some (v, (av t)[c]) := by
    rw [List.getElem?_zip_eq_some]
    exact ⟨hv, List.getElem?_eq_getElem hl⟩
  have hcl := hcell (c * 2) _ (by have h := flatMap_at gS 2 (fun _ => rfl) _ c 0 _ hz (by decide); rw [Nat.add_zero] at h; rw [h]; rfl)
  refine ⟨b, c', by rw [h.tb.cell t, arrN_at tv ht, e], ?_⟩
  rw [hcl, hv2]
  cases iw work c <;> rfl
set_option maxHeartbeats 8000000 in
set_option maxRecDepth 100000 in
theorem law_barrTogether (xr xw : Int) (S : Option Addr) (p q : Nat) (bs : List UInt8) (w : World) (ha : -9223372036854775808 ≤ xr) (ha1 : xr ≤ 9223372036854775807) (hb : -9223372036854775808 ≤ xw) (hb1 : xw ≤ 9223372036854775807) (hp : p ≤ q) (hq : q ≤ maxLen) (_ : q * 1 ≤ 140737488351232) (hS : Sl w 1 S p (byts bs)) (hT : STab w) :
    Calls Tryd.prog 12 #[.int .i64 xr, .int .i64 xw, .slice S p q] w fun e w' => e = .returned (.bool true) ∧ Below w.heap.size w w' := by
  have HS := hid hS; have HT := hid hT
  clear hS hT
  have hpl : p ≤ 9223372036854775807 := by unfold maxLen at hq; omega
  clear hq
  have m1 := pk_lt xr 4 (by decide)
  have k1 := pk_lt xw 10 (by decide)
  obtain ⟨n, hR⟩ : ∃ n : Nat, wrap64 (1 + (pk xr 4 : Int)) = (n : Int) ∧ n = 1 + pk xr 4 := ⟨1 + pk xr 4, by rw [wrap_sm (by omega) (by omega)]; omega, rfl⟩
  obtain ⟨kw, hK⟩ : ∃ kw : Nat, pk xw 10 = kw := ⟨_, rfl⟩
  have h1 : 1 ≤ n := by omega
  have h4 : n ≤ 4 := by omega
  have hK9 : kw ≤ 9 := by omega
  have HR := hid hR.1; have HKK := hid hK
  clear hR hK m1 k1
  go_enter Tryd.func12, Tryd.ntmps12
  go_wp2_with fail
  refine (picked xr 4 w (by decide) ha ha1 (by decide)).mono ?_
  rintro e w' ⟨rfl, rfl⟩
  go_wp2_with fail
  refine (picked xw 10 w (by decide) hb hb1 (by decide)).mono ?_
  rintro e w' ⟨rfl, rfl⟩
  rw [HKK.out]
  go_wp2_with fail
  rw [HR.out]
  refine (barr_machine n 10 kw w h1 h4 (by decide) hK9 HT.out).mono ?_
  rintro e w1 hp1
  obtain ⟨AW, cW, AC, cC, T, cv, tv, av, rfl, hW, hM, b1⟩ := hp1
  have HM := hid hM; have B1 := hid b1; have HW := hid hW
  have hcC1 : n + 1 ≤ cC := by obtain ⟨A', c', e, h1, _⟩ := own_form hM.co; injection e with _ _ e3; omega
  clear hM b1 hW
  obtain ⟨X, hX⟩ : ∃ X, w1.heap.size = X := ⟨_, rfl⟩
  go_upto_region 4 with fail
  have HX0 := hid (blkN w1 27 #[.slice AW 1 cW, .slice AC (n + 1) cC, .slice (some ⟨T, 0, none⟩) n n] X hX)
  have BA := hid (bgo B1.out (bnew (bnil w1) (.cells #[.slice AW 1 cW, .slice AC (n + 1) cC, .slice (some ⟨T, 0, none⟩) n n] 27)))
  have HMN := hid (HM.out.below (bnew (bnil w1) (.cells #[.slice AW 1 cW, .slice AC (n + 1) cC, .slice (some ⟨T, 0, none⟩) n n] 27)))
  have HMA := hid (barr_at HMN.out h1 h4 (by decide) hK9)
  have HWA := hid (own_below HW.out (bnew (bnil w1) (.cells #[.slice AW 1 cW, .slice AC (n + 1) cC, .slice (some ⟨T, 0, none⟩) n n] 27)))
  generalize World.alloc w1 _ = wA at *
  clear hX HM HW
  have y0 : wA.cell? ⟨X, 0, none⟩ = some (.slice AW 1 cW) := HX0.out.cell 0
  have y1 : wA.cell? ⟨X, 1, none⟩ = some (.slice AC (n + 1) cC) := HX0.out.cell 1
  have y2 : wA.cell? ⟨X, 2, none⟩ = some (.slice (some ⟨T, 0, none⟩) n n) := HX0.out.cell 2
  refine wp_region_held_drew (S := (fun w' => w'.cell? ⟨X, 0, none⟩ = some (.slice AW 1 cW) ∧ w'.cell? ⟨X, 1, none⟩ = some (.slice AC (n + 1) cC) ∧ w'.cell? ⟨X, 2, none⟩ = some (.slice (some ⟨T, 0, none⟩) n n))) (by kernel_rfl) ?_ (fun hHeld => ?_)
  · (try dsimp only); (first | assumption | exact ⟨y0, y1, y2⟩ | exact ⟨z0, z1, z2⟩ | exact ⟨u0, u1, u2⟩)
  refine wpAnyH_take (i := 0) (oi := ⟨some 29, _, _, _, _, _⟩) (v := ?_) rfl (by kernel_rfl) (by kernel_rfl) (by kernel_rfl) (fun _ _ _ h => h) (Or.inl ⟨by rfl, ?_⟩) (by assumption) ?_
  rotate_left
  · intro w hSw; (try dsimp only at hSw); go_simp <;> with_reducible rfl
  try simp only [Act.put, List.setIfInBounds_toArray, List.set_cons_zero, List.set_cons_succ]
  refine wpAnyH_take (i := 1) (oi := ⟨some 30, _, _, _, _, _⟩) (v := ?_) rfl (by kernel_rfl) (by kernel_rfl) (by kernel_rfl) (fun _ _ _ h => h) (Or.inl ⟨by rfl, ?_⟩) (by assumption) ?_
  rotate_left
  · intro w hSw; (try dsimp only at hSw); go_simp <;> with_reducible rfl
  try simp only [Act.put, List.setIfInBounds_toArray, List.set_cons_zero, List.set_cons_succ]
  refine wpAnyH_take (i := 2) (oi := ⟨some 31, _, _, _, _, _⟩) (v := ?_) rfl (by kernel_rfl) (by kernel_rfl) (by kernel_rfl) (fun _ _ _ h => h) (Or.inl ⟨by rfl, ?_⟩) (by assumption) ?_
  rotate_left
  · intro w hSw; (try dsimp only at hSw); go_simp <;> with_reducible rfl
  try simp only [Act.put, List.setIfInBounds_toArray, List.set_cons_zero, List.set_cons_succ]
  refine wpAnyH_ready (rs := [3]) (by kernel_rfl) (by simp) ?_
  refine AllReadyH.cons (o := ⟨some 32, _, _, _, _, _⟩) rfl (fun K hK => ?_) AllReadyH.nil
  go_simp
  refine (schedule_n S p q n 3000 bs _ hpl (by omega) (by omega) (by decide) (HS.out.below (bgo BA.out (bnil wA).drew))).mono ?_; rintro e w2 ⟨v, rfl, ho⟩; have hl4 : (schedN bs n 3000).length ≤ 3000 := (by have := schedN_len bs n 3000; omega); have HLT := hid (schedN_lt bs (N := n) (by omega) 3000); generalize schedN bs n 3000 = all at *; obtain ⟨Al, cl, rfl, hcl, hcl2⟩ := ho.form; have HO := hid ho; clear ho; rw [show (nats all).length = all.length by simp] at *; unfold maxLen at hcl2; obtain ⟨N, hN⟩ : ∃ N, all.length = N := ⟨_, rfl⟩; rw [hN] at HO hl4 hcl ⊢; have HN := hid hN; clear hN; have BS := hid (bgo (bnil wA).drew HO.out.below); obtain ⟨z0, z1, z2⟩ := cells3 BS.out y0 y1 y2
  go_wp2_with fail
  refine hK.out _ _ ?_ (fun hHeld => ?_)
  · (try dsimp only); (first | assumption | exact ⟨y0, y1, y2⟩ | exact ⟨z0, z1, z2⟩ | exact ⟨u0, u1, u2⟩)
  clear hK K
  try simp only [Act.put, List.setIfInBounds_toArray, List.set_cons_zero, List.set_cons_succ]
  refine wpAnyH_ready (rs := [4]) (by kernel_rfl) (by simp) ?_
  refine AllReadyH.cons (o := ⟨some 33, _, _, _, _, _⟩) rfl (fun K hK => ?_) AllReadyH.nil
  go_simp
  have HWS := hid (show Sl w2 1 AW 1 (ints ([0] : List Int)) from Sl.own (own_below HWA.out BS.out)); have HNE := hid (barr_play (often := 10) (work := kw) h1 h4 (by decide) all).2; have HMB := hid (HMA.out.below BS.out); refine (ran_of AW AC (some ⟨T, 0, none⟩) Al 1 cW (n + 1) cC n n N cl (barrMach n 10 kw) all w2 (by decide) (by omega) (by omega) (by omega) hcl (HT.out.below (bgo BA.out BS.out)) HMB.out HWS.out HO.out.sl HLT.out HNE.out (play_fin _ all)).mono ?_; rintro e w3 hp3; obtain ⟨v3, rs, rfl, hrow, hrs, htold, b3⟩ := hp3; obtain ⟨A3, c3, rfl, hc3, hc3'⟩ := own_form hrow; obtain ⟨LD, hLD⟩ : ∃ LD, rs.length = LD := ⟨_, rfl⟩; rw [hLD] at hrow hc3 ⊢; have HD := hid (DsAt.mk hLD hrow htold); have HRS := hid hrs; have B3 := hid (bgo BS.out b3); clear hrow htold hrs b3 hLD; obtain ⟨u0, u1, u2⟩ := cells3 B3.out y0 y1 y2
  go_wp2_with fail
  refine hK.out _ _ ?_ (fun hHeld => ?_)
  · (try dsimp only); (first | assumption | exact ⟨y0, y1, y2⟩ | exact ⟨z0, z1, z2⟩ | exact ⟨u0, u1, u2⟩)
  clear hK K
  try simp only [Act.put, List.setIfInBounds_toArray, List.set_cons_zero, List.set_cons_succ]
  refine wpAnyH_take (i := 5) (oi := ⟨some 28, _, _, _, _, _⟩) (v := ?_) rfl (by kernel_rfl) (by kernel_rfl) (by kernel_rfl) (fun _ _ _ h => h) (Or.inl ⟨by rfl, ?_⟩) (by assumption) ?_
  rotate_left
  · intro w hSw; (try dsimp only at hSw); go_simp <;> with_reducible rfl
  try simp only [Act.put, List.setIfInBounds_toArray, List.set_cons_zero, List.set_cons_succ]
  refine wpAnyH_take (i := 6) (oi := ⟨some 34, _, _, _, _, _⟩) (v := ?_) rfl (by kernel_rfl) (by kernel_rfl) (by kernel_rfl) (fun _ _ _ h => h) (Or.inl ⟨by rfl, ?_⟩) (by assumption) ?_
  rotate_left
  · intro w hSw; (try dsimp only at hSw); go_simp <;> with_reducible rfl
  try simp only [Act.put, List.setIfInBounds_toArray, List.set_cons_zero, List.set_cons_succ]
  refine wpAnyH_take (i := 7) (oi := ⟨some 35, _, _, _, _, _⟩) (v := ?_) rfl (by kernel_rfl) (by kernel_rfl) (by kernel_rfl) (fun _ _ _ h => h) (Or.inl ⟨by rfl, ?_⟩) (by assumption) ?_
  rotate_left
  · intro w hSw; (try dsimp only at hSw); go_simp <;> with_reducible rfl
  try simp only [Act.put, List.setIfInBounds_toArray, List.set_cons_zero, List.set_cons_succ]
  refine wpAnyH_take (i := 8) (oi := ⟨some 11, _, _, _, _, _⟩) (v := ?_) rfl (by kernel_rfl) (by kernel_rfl) (by kernel_rfl) (fun _ _ _ h => h) (Or.inl ⟨by rfl, ?_⟩) (by assumption) ?_
  rotate_left
  · intro w hSw; (try dsimp only at hSw); go_simp <;> with_reducible rfl
  try simp only [Act.put, List.setIfInBounds_toArray, List.set_cons_zero, List.set_cons_succ]
  refine wpAnyH_take (i := 9) (oi := ⟨some 12, _, _, _, _, _⟩) (v := ?_) rfl (by kernel_rfl) (by kernel_rfl) (by kernel_rfl) (fun _ _ _ h => h) (Or.inl ⟨by rfl, ?_⟩) (by assumption) ?_
  rotate_left
  · intro w hSw; (try dsimp only at hSw); go_simp <;> with_reducible rfl
  try simp only [Act.put, List.setIfInBounds_toArray, List.set_cons_zero, List.set_cons_succ]
  refine wpAnyH_done (by kernel_rfl) ?_ _
  rotate_left
  have B03 := hid (bgo BA.out B3.out)
  have HM3 := hid (HMN.out.below B3.out)
  have HX3 := hid (HX0.out.below' B3.out)
  clear hHeld
  clear z0 z1 z2 u0 u1 u2 y0 y1 y2 HX0 HMA HWA BA HO HWS HMB BS HMN
  have HTG := hid (fun (k e : Nat) (d : Dg) hk he hw => barr_together (n := n) (often := 10) (work := kw) h1 h4 (by decide) all (k := k) (e := e) (d := d) hk he hw)
  have HTIME := hid (play_di (barrMach n 10 kw) all).time
  have HC := hid (fun (k : Nat) (d : Dg) hk => play_c (m := barrMach n 10 kw) (N := bLL 10 kw) (barr_len n 10 kw) all (k := k) (d := d) hk)
  have hmt : (barrMach n 10 kw).threads.length = n := by simp [barrMach]
  rw [hmt] at HC
  rw [← HRS.out] at HTG HTIME HC
  clear HRS HNE hmt
  obtain ⟨L, hLL⟩ : ∃ L, bLL 10 kw = L := ⟨_, rfl⟩
  have hL20 : L ≤ 20 := by rw [← hLL]; unfold bLL; split <;> omega
  have HLL := hid hLL
  rw [hLL] at HC
  clear hLL
  unfold maxLen at hc3'
  go_wp2_with fail
  go_loopw [13] (fun i wr => ∃ k : Nat, k ≤ LD ∧ i = .int .i64 k ∧ Hid (Below w3.heap.size w3 wr)) (fun i _ => LD - (intOf i).toNat)
  case atStart => exact ⟨0, Nat.zero_le _, rfl, hid (bnil _)⟩
  case round =>
    obtain ⟨k, hk, rfl, BR⟩ := hrel
    by_cases hlt : k < LD
    · have j1 : (k : Int) < (LD : Int) := by omega
      obtain ⟨b9, d, At, ct, rfl, hd, lt9, u0, u1, u2, u3, u4, ut⟩ := (HD.out.below BR.out).at_ hlt
      have HDk := hid hd
      obtain ⟨hcL, htn⟩ := HC.out k d hd
      obtain ⟨bx, hbx⟩ : ∃ bx, wr.heap.size = bx := ⟨_, rfl⟩
      have XB0 := hid (blkN wr 36 #[.int .i64 (d.b : Int), .int .i64 (eI d.e), .int .i64 (d.t : Int), .int .i64 (d.c : Int), .slice At d.told.length ct] bx hbx)
      have BN0 := hid (bnew (bnil wr) (.cells #[.int .i64 (d.b : Int), .int .i64 (eI d.e), .int .i64 (d.t : Int), .int .i64 (d.c : Int), .slice At d.told.length ct] 36))
      clear hd ut
      go_upto_region 11 with fail
      generalize World.alloc wr _ = wq at *
      have BQ := hid (bgo BR.out BN0.out)
      clear hbx BN0 u0 u1 u2 u3 u4 lt9
      have x1 : wq.cell? ⟨bx, 1, none⟩ = some (.int .i64 (eI d.e)) := XB0.out.cell 1
      have x2 : wq.cell? ⟨bx, 2, none⟩ = some (.int .i64 (d.t : Int)) := XB0.out.cell 2
      have x3 : wq.cell? ⟨bx, 3, none⟩ = some (.int .i64 (d.c : Int)) := XB0.out.cell 3
      obtain ⟨bt, cth, t0, t1⟩ := barr_codeAt (HM3.out.below BQ.out) htn (by rw [HLL.out]; exact hcL)
      rw [HLL.out] at t0
      have y2 : wq.cell? ⟨X, 2, none⟩ = some (.slice (some ⟨T, 0, none⟩) n n) := (HX3.out.below' BQ.out).cell 2
      have itn : (d.t : Int) < (n : Int) := by omega
      have icL : (d.c : Int) < (L : Int) := by omega
      cases hiw : iw kw d.c with
      | false =>
        rw [hiw] at t1
        obtain ⟨cd, hcd⟩ : ∃ cd, 1 + d.t = cd := ⟨_, rfl⟩
        simp only [Bool.false_eq_true, if_false] at t1
        rw [hcd] at t1
        have hne : ((cd : Int) != 0) = true := bneT (by omega)
        clear hiw hcd
        go_quiet (fail)
        have BQ1 := hid (below_drewN BQ.out nq)
        go_wp2_with fail
        go_roundw
        case rel => exact ⟨k + 1, by omega, by go_num, BQ1⟩
        case measure => simp [intOf]; omega
      | true =>
        rw [hiw] at t1
        simp only [if_true] at t1
        have t1 : wq.cell? ⟨bt, d.c * 2, none⟩ = some (.int .i64 0) := t1
        cases he : d.e with
        | none =>
          have e1 : eI d.e = -1 := by rw [he]; rfl
          rw [e1] at x1
          clear e1 he hiw
          go_quiet (fail)
          have BQ1 := hid (below_drewN BQ.out nq)
          go_wp2_with fail
          go_roundw
          case rel => exact ⟨k + 1, by omega, by go_num, BQ1⟩
          case measure => simp [intOf]; omega
        | some e =>
          have e1 : eI d.e = (e : Int) := by rw [he]; rfl
          rw [e1] at x1
          have HE1 := hid e1
          have htg := HTG.out k e d HDk.out he hiw
          have HG := hid htg
          have hel := ((HTIME.out k d HDk.out).2 e he).2
          rw [HN.out] at hel
          have en : ((e : Int) == -1) = false := beqF (by omega)
          clear e1 he hiw htg
          go_quiet (fail)
          have BQ1 := hid (below_drewN BQ.out nq)
          have XB := hid (XB0.out.below' (below_drewN (bnil wq) nq))
          clear x1 x2 x3 t0 t1 y2 BQ XB0 BR
          generalize World.drewN wq nq = wp at *
          go_wp2_with fail
          go_loopw [15, 16] (fun o i wz => ∃ (j q : Nat), j ≤ LD ∧ q ≤ j ∧ i = .int .i64 j ∧ o = .int .i64 q ∧ Hid (q = (((rs.map (·.1)).take j).filter (fun x => x.c == d.c && decide (x.b ≤ e))).length) ∧ Hid (Below wp.heap.size wp wz)) (fun _ i _ => LD - (intOf i).toNat)
          case atStart => exact ⟨0, 0, Nat.zero_le _, Nat.le_refl _, rfl, rfl, hid rfl, hid (bnil _)⟩
          case round =>
            obtain ⟨j, q, hj, hqj, rfl, rfl, HQ, BZ⟩ := hrel
            have x1 : wr.cell? ⟨bx, 1, none⟩ = some (.int .i64 (e : Int)) := by have h := (XB.out.below' BZ.out).cell 1; rw [HE1.out] at h; exact h
            have x3 : wr.cell? ⟨bx, 3, none⟩ = some (.int .i64 (d.c : Int)) := (XB.out.below' BZ.out).cell 3
            by_cases hlt2 : j < LD
            · have j2 : (j : Int) < (LD : Int) := by omega
              obtain ⟨b10, d2, At2, ct2, hb10, hd2, lt10, z0, z1, z2, z3, z4, zt⟩ := (HD.out.below (bgo BQ1.out BZ.out)).at_ hlt2
              injection hb10 with hb10; injection hb10 with hb10 _ _
              subst hb10
              have hft := filter_take (P := fun x : Dg => x.c == d.c && decide (x.b ≤ e)) hd2
              rw [← HQ.out] at hft
              have HFT := hid hft
              clear hd2 zt hft
              by_cases hcc : d2.c = d.c
              · have f1 : ((d2.c : Int) == (d.c : Int)) = true := beqT (by omega)
                by_cases hbe : d2.b ≤ e
                · have f2 : decide ((d2.b : Int) ≤ (e : Int)) = true := decide_eq_true (by omega)
                  have HN1 := hid (show q + 1 = (((rs.map (·.1)).take (j + 1)).filter (fun x => x.c == d.c && decide (x.b ≤ e))).length by rw [HFT.out]; simp [hcc, hbe])
                  clear HFT
                  go_wp2_with fail
                  go_quiet (fail)
                  have BZ1 := hid (below_drewN BZ.out nq)
                  go_wp2_with fail
                  go_roundw
                  case rel => first | exact ⟨j + 1, q + 1, by omega, by omega, by go_num, by go_num, HN1, BZ1⟩ | exact ⟨j + 1, by omega, q + 1, by omega, by go_num, by go_num, HN1, BZ1⟩ | exact ⟨j + 1, by omega, q + 1, by omega, by go_num, by go_num, HN1⟩ | (trace_state; fail)
                  case measure => simp [intOf]; omega
                · have f2 : decide ((d2.b : Int) ≤ (e : Int)) = false := decide_eq_false (by omega)
                  have HN1 := hid (show q = (((rs.map (·.1)).take (j + 1)).filter (fun x => x.c == d.c && decide (x.b ≤ e))).length by rw [HFT.out]; simp [hbe])
                  clear HFT
                  go_wp2_with fail
                  go_quiet (fail)
                  have BZ1 := hid (below_drewN BZ.out nq)
                  go_wp2_with fail
                  go_roundw
                  case rel => first | exact ⟨j + 1, q, by omega, by omega, by go_num, by go_num, HN1, BZ1⟩ | exact ⟨j + 1, by omega, q, by omega, by go_num, by go_num, HN1, BZ1⟩ | exact ⟨j + 1, by omega, q, by omega, by go_num, by go_num, HN1⟩ | (trace_state; fail)
                  case measure => simp [intOf]; omega
              · have f1 : ((d2.c : Int) == (d.c : Int)) = false := beqF (by omega)
                have HN1 := hid (show q = (((rs.map (·.1)).take (j + 1)).filter (fun x => x.c == d.c && decide (x.b ≤ e))).length by rw [HFT.out]; simp [hcc])
                clear HFT
                go_wp2_with fail
                go_quiet (fail)
                have BZ1 := hid (below_drewN BZ.out nq)
                go_wp2_with fail
                go_roundw
                case rel => first | exact ⟨j + 1, q, by omega, by omega, by go_num, by go_num, HN1, BZ1⟩ | exact ⟨j + 1, by omega, q, by omega, by go_num, by go_num, HN1, BZ1⟩ | exact ⟨j + 1, by omega, q, by omega, by go_num, by go_num, HN1⟩ | (trace_state; fail)
                case measure => simp [intOf]; omega
            · obtain rfl : j = LD := by omega
              have j2 : ¬ (j : Int) < (j : Int) := by omega
              have hqn : q = n := by rw [HQ.out, List.take_of_length_le (by rw [List.length_map, HD.out.len]; exact Nat.le_refl _)]; exact HG.out
              have BZZ := hid (bgo BQ1.out BZ.out)
              clear HQ
              subst hqn
              have f3 : ((q : Int) != (q : Int)) = false := by simp
              go_wp2_with fail
              go_roundw
              case rel => exact ⟨k + 1, by omega, by go_num, BZZ⟩
              case measure => simp [intOf]; omega
    · obtain rfl : k = LD := by omega
      have j1 : ¬ (k : Int) < (k : Int) := by omega
      go_wp2_with fail
      go_ret
      exact ⟨rfl, bgo B03.out BR.out⟩
end Go.Proofs.YtnoinojhocicjaaDoor
