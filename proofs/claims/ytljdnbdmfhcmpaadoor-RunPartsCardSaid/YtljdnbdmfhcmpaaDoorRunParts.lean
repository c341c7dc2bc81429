/-
  RunParts: its walk.
-/
import Derived.Test.YtljdnbdmfhcmpaaDoorRunPre
namespace Go.Proofs.YtljdnbdmfhcmpaaDoor
open Go.RowKit
set_option linter.unusedVariables false
theorem sees3 {W w' : World} {p q r : Addr} {u v x : Value} (h : Below W.heap.size W w') (hp : W.cell? p = some u) (hq : W.cell? q = some v) (hr : W.cell? r = some x) : Below W.heap.size W w' ∧ w'.cell? p = some u ∧ w'.cell? q = some v ∧ w'.cell? r = some x := ⟨h, cell_below h hp, cell_below h hq, cell_below h hr⟩
theorem sees12 {W w' : World} {p0 p1 p2 p3 p4 p5 p6 p7 p8 p9 p10 p11 : Addr} {z0 z1 z2 z3 z4 z5 z6 z7 z8 z9 z10 z11 : Value} (h : Below W.heap.size W w') (h0 : W.cell? p0 = some z0) (h1 : W.cell? p1 = some z1) (h2 : W.cell? p2 = some z2) (h3 : W.cell? p3 = some z3) (h4 : W.cell? p4 = some z4) (h5 : W.cell? p5 = some z5) (h6 : W.cell? p6 = some z6) (h7 : W.cell? p7 = some z7) (h8 : W.cell? p8 = some z8) (h9 : W.cell? p9 = some z9) (h10 : W.cell? p10 = some z10) (h11 : W.cell? p11 = some z11) : Below W.heap.size W w' ∧ w'.cell? p0 = some z0 ∧ w'.cell? p1 = some z1 ∧ w'.cell? p2 = some z2 ∧ w'.cell? p3 = some z3 ∧ w'.cell? p4 = some z4 ∧ w'.cell? p5 = some z5 ∧ w'.cell? p6 = some z6 ∧ w'.cell? p7 = some z7 ∧ w'.cell? p8 = some z8 ∧ w'.cell? p9 = some z9 ∧ w'.cell? p10 = some z10 ∧ w'.cell? p11 = some z11 := ⟨h, cell_below h h0, cell_below h h1, cell_below h h2, cell_below h h3, cell_below h h4, cell_below h h5, cell_below h h6, cell_below h h7, cell_below h h8, cell_below h h9, cell_below h h10, cell_below h h11⟩
set_option maxHeartbeats 4000000 in
set_option maxRecDepth 100000 in
theorem law_runParts (A : Option Addr) (n c : Nat) (ls : List Op5) (A2 : Option Addr) (n2 c2 : Nat) (ms : List Op5) (D : Option Addr) (r s : Nat) (cs : List Int) (S : Option Addr) (p q : Nat) (bs : List UInt8) (a : Int) (w : World)
    (hn : n ≤ c) (hc : c ≤ maxLen) (_ : c * 40 ≤ 140737488351232) (hA : Sl w 5 A n (ls.flatMap gO)) (hls : ∀ x ∈ ls, LineOk x)
    (hn2 : n2 ≤ c2) (hc2 : c2 ≤ maxLen) (_ : c2 * 40 ≤ 140737488351232) (hA2 : Sl w 5 A2 n2 (ms.flatMap gO)) (hms : ∀ x ∈ ms, LineOk x)
    (hr : r ≤ s) (hs : s ≤ maxLen) (_ : s * 8 ≤ 140737488351232) (hD : Sl w 1 D r (ints cs)) (hcs : ∀ x ∈ cs, -9223372036854775808 ≤ x ∧ x ≤ 9223372036854775807)
    (hp : p ≤ q) (hq : q ≤ maxLen) (_ : q * 1 ≤ 140737488351232) (hS : Sl w 1 S p (byts bs))
    (ha : -9223372036854775808 ≤ a) (ha1 : a ≤ 9223372036854775807) (hT : STab w) :
    Calls Tryd.prog 7 #[.slice A n c, .slice A2 n2 c2, .slice D r s, .slice S p q, .int .i64 a] w fun e w' => e = .returned (.bool true) ∧ Below w.heap.size w w' := by
  have HA := hid (Lines.mk hA hls); have HA2 := hid (Lines.mk hA2 hms); have HD := hid hD; have HCS := hid hcs; have HS := hid hS; have HT := hid hT
  clear hA hA2 hls hms hD hcs hS hT
  have hpl : p ≤ 9223372036854775807 := by unfold maxLen at hq; omega
  have HC := hid hc; have HC2 := hid hc2; have HQ := hid hq; have HSS := hid hs; clear hc hc2 hq hs
  go_enter Tryd.func7, Tryd.ntmps7
  go_wp2_with fail
  refine (machine_of A n c A2 n2 c2 D r s ls ms cs w hn HC.out hn2 HC2.out (Nat.le_trans hr HSS.out) HA.out HA2.out HD.out HCS.out).mono ?_
  rintro e w1 hp1
  obtain ⟨Wb, Cb, T, c1', c2', tv, av, rfl, hM, b1⟩ := hp1
  have HM := hid hM; have B1 := hid b1
  clear hM b1
  obtain ⟨X, hX⟩ : ∃ X, w1.heap.size = X := ⟨_, rfl⟩
  go_wp2_with fail
  have HX0 := hid (blkN w1 44 #[.slice (some ⟨Wb, 0, none⟩) 8 8, .slice (some ⟨Cb, 0, none⟩) 2 2, .slice (some ⟨T, 0, none⟩) 3 3] X hX)
  have BA := hid (bgo B1.out (bnew (bnil w1) (.cells #[.slice (some ⟨Wb, 0, none⟩) 8 8, .slice (some ⟨Cb, 0, none⟩) 2 2, .slice (some ⟨T, 0, none⟩) 3 3] 44)))
  have HMA := hid (HM.out.below (bnew (bnil w1) (.cells #[.slice (some ⟨Wb, 0, none⟩) 8 8, .slice (some ⟨Cb, 0, none⟩) 2 2, .slice (some ⟨T, 0, none⟩) 3 3] 44)))
  generalize World.alloc w1 _ = wA at *
  clear hX HM
  refine (schedule S p q 400 bs wA hpl (by decide) (HS.out.below BA.out)).mono ?_
  rintro e w2 ⟨v, rfl, ho⟩
  have hl4 : (sched bs 400).length ≤ 400 := by rw [sched_len]; omega
  have HLT := hid (sched_lt bs 400)
  generalize sched bs 400 = all at *
  obtain ⟨Al, cl, rfl, hcl, hcl2⟩ := ho.form
  have HO := hid ho; clear ho
  rw [show (nats all).length = all.length by simp] at *
  unfold maxLen at hcl2
  obtain ⟨N, hN⟩ : ∃ N, all.length = N := ⟨_, rfl⟩
  rw [hN] at HO hl4 hcl ⊢
  have HN := hid hN; clear hN
  go_wp2_with fail
  refine (picked a _ _ (by omega) ha ha1 (by omega)).mono ?_
  rintro e w' ⟨rfl, rfl⟩
  have hk1 := pk_lt a ((N : Int) + 1) (by omega)
  obtain ⟨K, hK⟩ : ∃ K, pk a ((N : Int) + 1) = K := ⟨_, rfl⟩
  rw [hK] at hk1 ⊢
  clear hK
  have hKN : K ≤ N := by omega
  have x0 : w2.cell? ⟨X, 0, none⟩ = some (.slice (some ⟨Wb, 0, none⟩) 8 8) := (HX0.out.below' HO.out.below).cell 0
  have x1 : w2.cell? ⟨X, 1, none⟩ = some (.slice (some ⟨Cb, 0, none⟩) 2 2) := (HX0.out.below' HO.out.below).cell 1
  have x2 : w2.cell? ⟨X, 2, none⟩ = some (.slice (some ⟨T, 0, none⟩) 3 3) := (HX0.out.below' HO.out.below).cell 2
  have i1 : (K : Int) ≤ (N : Int) := by omega
  have i2 : (K : Int) ≤ (cl : Int) := by omega
  have i3 : (0 : Int) ≤ (K : Int) := by omega
  go_wp2_with fail
  have HYS := hid (show ∀ y : List Int, [] ++ y = y from fun y => rfl)
  have HSL := hid (show Sl w2 1 Al K (((nats all).take K).flatMap gI) from HO.out.sl.preG (fun _ => rfl) (by omega))
  obtain ⟨ya, hya⟩ : ∃ ya, nats (all.take K) = ya := ⟨_, rfl⟩
  have hyl : ya.length = K := by rw [← hya]; simp [HN.out]; omega
  have HYL := hid hyl; have HYA := hid hya
  have HYB := hid (show (nats all).take K = ya by rw [← hya]; simp [nats])
  clear hya hyl
  rw [HYB.out] at HSL
  have HM2 := hid (ML.mach (HMA.out.below HO.out.below) (mthr_th cs))
  have HT2 := hid (HT.out.below (bgo BA.out HO.out.below))
  have HLK := hid (show ∀ x ∈ all.take K, x < 3 from fun x hx => HLT.out x (List.mem_of_mem_take hx))
  have HIS := hid (show ∀ (w' : World) (B c : Nat) (A' : Option Addr), w'.ownsRow B 3 1 (.slice A' ya.length c) ya.length (ya.flatMap gI) → Sl w' 1 A' ya.length (ints ((all.take K).map fun x : Nat => (x : Int))) from fun w' B c A' h => by have h2 := Sl.own h; rw [← HYA.out] at h2 ⊢; exact h2)
  generalize machT ls ms (mthr cs (min 12 cs.length)) = m at *
  have ltX := World.block_lt_of_cell? w2 _ x0
  go_region_held3 (fun w' => Below w2.heap.size w2 w' ∧ w'.cell? ⟨X, 0, none⟩ = some (.slice (some ⟨Wb, 0, none⟩) 8 8) ∧ w'.cell? ⟨X, 1, none⟩ = some (.slice (some ⟨Cb, 0, none⟩) 2 2) ∧ w'.cell? ⟨X, 2, none⟩ = some (.slice (some ⟨T, 0, none⟩) 3 3))
    ((refine sees3 ?_ x0 x1 x2; (repeat (first | assumption | exact (‹Below w2.heap.size w2 _ ∧ _ ∧ _›).1 | exact bnil _ | refine Below.drew ?_ | refine bnew ?_ _))))
    (first
      | (refine step_appB elmI gI_one rfl (.const (.slice none 0 0)) (.tmp 36) rfl (.slice none 0 0) [] rfl (own0 _ w2.heap.size _ 1) ya ya (hid (HYS.out ya)) rfl (Sl.drew HSL.out) HYL.out (by rw [HYL.out]; simp only [maxLen]; omega) (by rw [HYL.out]; omega) (Nat.le_refl _) ?_; intro E6 c6 w6 hc6 hc7 HN6 HG6; have HB6 : Below w2.heap.size w2 w6 := bgo (bnil w2).drew (grown_nil HG6.out))
      | (go_at_call 20; ((with_reducible refine (run_play _ _ _ _ 8 8 2 2 3 3 ya.length c6 m (all.take K) w6 (by decide) (by decide) (by decide) (by rw [HYL.out]; omega) (HT2.out.below HB6) (HM2.out.1.below HB6) (HM2.out.2.below HB6) (HIS.out _ _ _ _ HN6.out) HLK.out).mono ?_); rintro e w7 hp7; obtain ⟨ev7, wv7, es7, rfl, HA7, HE7, HT7, HW7, b7⟩ := hp7; have HB7 := bgo HB6 b7)))
  all_goals
    have HBX := hid HB7
    have HEV := hid (Evs.mk HA7 HT7)
    have HEE := hid HE7
    have hx := evs_len HE7
    have x0 := cell_below HB7 x0; have x1 := cell_below HB7 x1; have x2 := cell_below HB7 x2
    clear HN6 HG6 HB6 HA7 HT7 HE7 HW7 b7 HB7 ltX hc6 hc7 HIS HYB HYA HYL HSL i1 i2 i3
    obtain ⟨xs, hxs⟩ : ∃ xs, nats all = xs := ⟨_, rfl⟩
    have hyl : xs.length = N := by rw [← hxs]; simp [HN.out]
    have HXL := hid hyl
    have HSL := hid (show Sl w7 1 Al N (xs.flatMap gI) by rw [← hxs]; exact HO.out.sl.below HBX.out)
    have HIS := hid (show ∀ (w' : World) (B c : Nat) (A' : Option Addr), w'.ownsRow B 3 1 (.slice A' xs.length c) xs.length (xs.flatMap gI) → Sl w' 1 A' xs.length (ints (all.map fun x : Nat => (x : Int))) from fun w' B c A' h => by have h2 := Sl.own h; rw [← hxs] at h2 ⊢; exact h2)
    clear hxs hyl
    have HM7 := hid (And.intro (HM2.out.1.below HBX.out) (HM2.out.2.below HBX.out))
    have HT7 := hid (HT2.out.below HBX.out)
    have ltX := World.block_lt_of_cell? w7 _ x0
    go_wp2_with fail
    go_region_held3 (fun w' => Below w7.heap.size w7 w' ∧ w'.cell? ⟨X, 0, none⟩ = some (.slice (some ⟨Wb, 0, none⟩) 8 8) ∧ w'.cell? ⟨X, 1, none⟩ = some (.slice (some ⟨Cb, 0, none⟩) 2 2) ∧ w'.cell? ⟨X, 2, none⟩ = some (.slice (some ⟨T, 0, none⟩) 3 3))
      ((refine sees3 ?_ x0 x1 x2; (repeat (first | assumption | exact (‹Below w7.heap.size w7 _ ∧ _ ∧ _›).1 | exact bnil _ | refine Below.drew ?_ | refine bnew ?_ _))))
      (first
        | (refine step_appB elmI gI_one rfl (.const (.slice none 0 0)) (.tmp 44) rfl (.slice none 0 0) [] rfl (own0 _ w7.heap.size _ 1) xs xs (hid (HYS.out xs)) rfl (Sl.drew HSL.out) HXL.out (by rw [HXL.out]; simp only [maxLen]; omega) (by rw [HXL.out]; omega) (Nat.le_refl _) ?_; intro E8 c8 w8 hc8 hc9 HN8 HG8; have HB8 : Below w7.heap.size w7 w8 := bgo (bnil w7).drew (grown_nil HG8.out))
        | (go_at_call 20; ((with_reducible refine (run_play _ _ _ _ 8 8 2 2 3 3 xs.length c8 m all w8 (by decide) (by decide) (by decide) (by rw [HXL.out]; omega) (HT7.out.below HB8) (HM7.out.1.below HB8) (HM7.out.2.below HB8) (HIS.out _ _ _ _ HN8.out) HLT.out).mono ?_); rintro e w9 hp9; obtain ⟨ev9, wv9, es9, rfl, HA9, HE9, HT9, HW9, b9⟩ := hp9; have HB9 := bgo HB8 b9)))
    obtain ⟨us, hus, hst⟩ := play_parts m all K (by rw [HN.out]; omega)
    obtain ⟨A7, c7, rfl, hn7, hn7'⟩ := own_form HEV.out.row
    obtain ⟨A9, c9, rfl, hn9, hn9'⟩ := own_form HA9
    have HEW := hid (Evs.mk HA9 HT9)
    have HEF := hid HE9
    have hy := evs_len HE9
    rw [hus, List.length_append, ← hx] at hy
    have HUS := hid hus; have HST := hid hst
    have HEV9 := hid (HEV.out.below HB9)
    have BW := hid (bgo (bgo (bgo BA.out HO.out.below) HBX.out) HB9)
    have HT10 := hid (HT7.out.below HB9)
    clear hus hst HN8 HG8 HB8 HA9 HE9 HT9 HW9 b9 HB9 ltX hc8 hc9 HIS HSL HXL HYS x0 x1 x2 HEV hx
    obtain ⟨L7, hL7⟩ : ∃ L7, es7.length = L7 := ⟨_, rfl⟩
    obtain ⟨L9, hL9⟩ : ∃ L9, es9.length = L9 := ⟨_, rfl⟩
    rw [hL7] at HEV9 hn7 hy ⊢
    rw [hL9] at HEW hn9 hy ⊢
    have HL7 := hid hL7; have HL9 := hid hL9
    clear hL7 hL9
    have hle : L7 ≤ L9 := by omega
    have i1 : (L7 : Int) ≤ (L9 : Int) := by omega
    have i0 : decide (L9 < L7) = false := by simp; omega
    clear hy
    unfold maxLen at hn7' hn9'
    go_wp2_with fail
    refine (run_sure _ HT10.out).mono ?_
    rintro e w10 ⟨rfl, b10⟩
    have B10 := hid b10; clear b10
    go_wp2_with fail
    go_loopw [20] (fun i wr => ∃ k : Nat, k ≤ L9 ∧ i = .int .i64 k ∧ Hid (Below w9.heap.size w9 wr)) (fun i _ => L9 - (intOf i).toNat)
    case atStart => exact ⟨0, Nat.zero_le _, rfl, B10⟩
    case round =>
      obtain ⟨k, hk, rfl, BR⟩ := hrel
      by_cases hlt : k < L9
      · have j1 : (k : Int) < (L9 : Int) := by omega
        obtain ⟨y, hy1⟩ : ∃ y, es9[k]? = some y := ⟨_, List.getElem?_eq_getElem (by rw [HL9.out]; exact hlt)⟩
        obtain ⟨b9, rfl, ⟨u0, u1, u2, u3, u4, u5⟩, ub, us', un⟩ := (HEW.out.below BR.out).at_ hy1
        by_cases h7 : k < L7
        · have j2 : (k : Int) < (L7 : Int) := by omega
          obtain ⟨x, hx1⟩ : ∃ x, es7[k]? = some x := ⟨_, List.getElem?_eq_getElem (by rw [HL7.out]; exact h7)⟩
          obtain ⟨b7, rfl, ⟨v0, v1, v2, v3, v4, v5⟩, vb, vs', vn⟩ := (HEV9.out.below BR.out).at_ hx1
          have hxy : x.1 = y.1 := evs_same HEE.out HEF.out k hx1 hy1 (by rw [HUS.out, List.getElem?_append_left (by have := evs_len HEE.out; have := HL7.out; omega)])
          rw [hxy] at v0 v1 v2 v3 v4 vs'
          have HUSL := hid us'; have HVSL := hid vs'
          clear us' vs' hxy hx1 hy1
          have j3 : decide ((L7 : Int) ≤ (k : Int)) = false := by simp; omega
          have j3n : decide (L7 ≤ k) = false := by simp; omega
          have j2n : decide (k < L7) = true := by simp; omega
          have vn' : x.2.n ≤ 9223372036854775807 := by unfold maxLen at vn; omega
          go_wp2_with fail
          refine wp_region_held_drew (S := (fun w' => Below wr.heap.size wr w' ∧ w'.cell? ⟨b7, k * 6, none⟩ = some (.int .i64 (y.1.step : Int)) ∧ w'.cell? ⟨b7, k * 6 + 1, none⟩ = some (.int .i64 (y.1.thread : Int)) ∧ w'.cell? ⟨b7, k * 6 + 2, none⟩ = some (.int .i64 (y.1.call : Int)) ∧ w'.cell? ⟨b7, k * 6 + 3, none⟩ = some (.bool y.1.fin) ∧ w'.cell? ⟨b7, k * 6 + 4, none⟩ = some (.int .i64 (y.1.err : Int)) ∧ w'.cell? ⟨b7, k * 6 + 5, none⟩ = some (x.2.v) ∧ w'.cell? ⟨b9, k * 6, none⟩ = some (.int .i64 (y.1.step : Int)) ∧ w'.cell? ⟨b9, k * 6 + 1, none⟩ = some (.int .i64 (y.1.thread : Int)) ∧ w'.cell? ⟨b9, k * 6 + 2, none⟩ = some (.int .i64 (y.1.call : Int)) ∧ w'.cell? ⟨b9, k * 6 + 3, none⟩ = some (.bool y.1.fin) ∧ w'.cell? ⟨b9, k * 6 + 4, none⟩ = some (.int .i64 (y.1.err : Int)) ∧ w'.cell? ⟨b9, k * 6 + 5, none⟩ = some (y.2.v))) (by kernel_rfl) ?_ (fun hHeld => ?_)
          · (try dsimp only); (refine sees12 ?_ v0 v1 v2 v3 v4 v5 u0 u1 u2 u3 u4 u5; first | exact (bnil wr).drew | exact HB11.out)
          refine wpAnyH_take (i := 0) (oi := ⟨some 73, _, _, _, _, _⟩) (v := ?_) rfl (by kernel_rfl) (by kernel_rfl) (by kernel_rfl) (fun _ _ _ h => h) (Or.inl ⟨by rfl, ?_⟩) (by assumption) ?_
          rotate_left
          · intro w hSw; (try dsimp only at hSw); go_simp <;> with_reducible rfl
          try simp only [Act.put, List.setIfInBounds_toArray, List.set_cons_zero, List.set_cons_succ]
          refine wpAnyH_take (i := 1) (oi := ⟨some 74, _, _, _, _, _⟩) (v := ?_) rfl (by kernel_rfl) (by kernel_rfl) (by kernel_rfl) (fun _ _ _ h => h) (Or.inl ⟨by rfl, ?_⟩) (by assumption) ?_
          rotate_left
          · intro w hSw; (try dsimp only at hSw); go_simp <;> with_reducible rfl
          try simp only [Act.put, List.setIfInBounds_toArray, List.set_cons_zero, List.set_cons_succ]
          refine wpAnyH_take (i := 2) (oi := ⟨some 75, _, _, _, _, _⟩) (v := ?_) rfl (by kernel_rfl) (by kernel_rfl) (by kernel_rfl) (fun _ _ _ h => h) (Or.inl ⟨by rfl, ?_⟩) (by assumption) ?_
          rotate_left
          · intro w hSw; (try dsimp only at hSw); go_simp <;> with_reducible rfl
          try simp only [Act.put, List.setIfInBounds_toArray, List.set_cons_zero, List.set_cons_succ]
          refine wpAnyH_take (i := 3) (oi := ⟨some 76, _, _, _, _, _⟩) (v := ?_) rfl (by kernel_rfl) (by kernel_rfl) (by kernel_rfl) (fun _ _ _ h => h) (Or.inl ⟨by rfl, ?_⟩) (by assumption) ?_
          rotate_left
          · intro w hSw; (try dsimp only at hSw); go_simp <;> with_reducible rfl
          try simp only [Act.put, List.setIfInBounds_toArray, List.set_cons_zero, List.set_cons_succ]
          refine wpAnyH_take (i := 4) (oi := ⟨some 77, _, _, _, _, _⟩) (v := ?_) rfl (by kernel_rfl) (by kernel_rfl) (by kernel_rfl) (fun _ _ _ h => h) (Or.inl ⟨by rfl, ?_⟩) (by assumption) ?_
          rotate_left
          · intro w hSw; (try dsimp only at hSw); go_simp <;> with_reducible rfl
          try simp only [Act.put, List.setIfInBounds_toArray, List.set_cons_zero, List.set_cons_succ]
          refine wpAnyH_take (i := 5) (oi := ⟨some 78, _, _, _, _, _⟩) (v := ?_) rfl (by kernel_rfl) (by kernel_rfl) (by kernel_rfl) (fun _ _ _ h => h) (Or.inl ⟨by rfl, ?_⟩) (by assumption) ?_
          rotate_left
          · intro w hSw; (try dsimp only at hSw); go_simp <;> with_reducible rfl
          try simp only [Act.put, List.setIfInBounds_toArray, List.set_cons_zero, List.set_cons_succ]
          refine wpAnyH_take (i := 6) (oi := ⟨some 79, _, _, _, _, _⟩) (v := ?_) rfl (by kernel_rfl) (by kernel_rfl) (by kernel_rfl) (fun _ _ _ h => h) (Or.inl ⟨by rfl, ?_⟩) (by assumption) ?_
          rotate_left
          · intro w hSw; (try dsimp only at hSw); go_simp <;> with_reducible rfl
          try simp only [Act.put, List.setIfInBounds_toArray, List.set_cons_zero, List.set_cons_succ]
          refine wpAnyH_take (i := 7) (oi := ⟨some 80, _, _, _, _, _⟩) (v := ?_) rfl (by kernel_rfl) (by kernel_rfl) (by kernel_rfl) (fun _ _ _ h => h) (Or.inl ⟨by rfl, ?_⟩) (by assumption) ?_
          rotate_left
          · intro w hSw; (try dsimp only at hSw); go_simp <;> with_reducible rfl
          try simp only [Act.put, List.setIfInBounds_toArray, List.set_cons_zero, List.set_cons_succ]
          refine wpAnyH_take (i := 8) (oi := ⟨some 81, _, _, _, _, _⟩) (v := ?_) rfl (by kernel_rfl) (by kernel_rfl) (by kernel_rfl) (fun _ _ _ h => h) (Or.inl ⟨by rfl, ?_⟩) (by assumption) ?_
          rotate_left
          · intro w hSw; (try dsimp only at hSw); go_simp <;> with_reducible rfl
          try simp only [Act.put, List.setIfInBounds_toArray, List.set_cons_zero, List.set_cons_succ]
          refine wpAnyH_take (i := 9) (oi := ⟨some 82, _, _, _, _, _⟩) (v := ?_) rfl (by kernel_rfl) (by kernel_rfl) (by kernel_rfl) (fun _ _ _ h => h) (Or.inl ⟨by rfl, ?_⟩) (by assumption) ?_
          rotate_left
          · intro w hSw; (try dsimp only at hSw); go_simp <;> with_reducible rfl
          try simp only [Act.put, List.setIfInBounds_toArray, List.set_cons_zero, List.set_cons_succ]
          refine wpAnyH_take (i := 10) (oi := ⟨some 83, _, _, _, _, _⟩) (v := ?_) rfl (by kernel_rfl) (by kernel_rfl) (by kernel_rfl) (fun _ _ _ h => h) (Or.inl ⟨by rfl, ?_⟩) (by assumption) ?_
          rotate_left
          · intro w hSw; (try dsimp only at hSw); go_simp <;> with_reducible rfl
          try simp only [Act.put, List.setIfInBounds_toArray, List.set_cons_zero, List.set_cons_succ]
          refine wpAnyH_take (i := 11) (oi := ⟨some 84, _, _, _, _, _⟩) (v := ?_) rfl (by kernel_rfl) (by kernel_rfl) (by kernel_rfl) (fun _ _ _ h => h) (Or.inl ⟨by rfl, ?_⟩) (by assumption) ?_
          rotate_left
          · intro w hSw; (try dsimp only at hSw); go_simp <;> with_reducible rfl
          try simp only [Act.put, List.setIfInBounds_toArray, List.set_cons_zero, List.set_cons_succ]
          refine wpAnyH_take (i := 12) (oi := ⟨some 85, _, _, _, _, _⟩) (v := ?_) rfl (by kernel_rfl) (by kernel_rfl) (by kernel_rfl) (fun _ _ _ h => h) (Or.inl ⟨by rfl, ?_⟩) (by assumption) ?_
          rotate_left
          · intro w hSw; (try dsimp only at hSw); go_simp <;> with_reducible rfl
          try simp only [Act.put, List.setIfInBounds_toArray, List.set_cons_zero, List.set_cons_succ]
          refine wpAnyH_ready (rs := [13]) (by kernel_rfl) (by simp) ?_
          refine AllReadyH.cons (o := ⟨some 86, _, _, _, _, _⟩) rfl (fun K hK => ?_) ?_
          rotate_left
          · exact AllReadyH.nil
          go_simp
          (with_reducible refine (same_event y.1 x.2 y.2 y.1.step _ vn' (Sl.drew HVSL.out) (Sl.drew HUSL.out)).mono ?_); rintro e w11 ⟨rfl, b11⟩; have HB11 := hid (bgo (bnil wr).drew b11); clear b11
          go_wp2_with fail
          refine hK.out _ _ ?_ (fun hHeld => ?_)
          · (try dsimp only); (refine sees12 ?_ v0 v1 v2 v3 v4 v5 u0 u1 u2 u3 u4 u5; first | exact (bnil wr).drew | exact HB11.out)
          clear hK K
          try simp only [Act.put, List.setIfInBounds_toArray, List.set_cons_zero, List.set_cons_succ]
          refine wpAnyH_take (i := 14) (oi := ⟨some 87, _, _, _, _, _⟩) (v := ?_) rfl (by kernel_rfl) (by kernel_rfl) (by kernel_rfl) (fun _ _ _ h => h) (Or.inl ⟨by rfl, ?_⟩) (by assumption) ?_
          rotate_left
          · intro w hSw; (try dsimp only at hSw); go_simp <;> with_reducible rfl
          try simp only [Act.put, List.setIfInBounds_toArray, List.set_cons_zero, List.set_cons_succ]
          refine wpAnyH_take (i := 15) (oi := ⟨some 88, _, _, _, _, _⟩) (v := ?_) rfl (by kernel_rfl) (by kernel_rfl) (by kernel_rfl) (fun _ _ _ h => h) (Or.inl ⟨by rfl, ?_⟩) (by assumption) ?_
          rotate_left
          · intro w hSw; (try dsimp only at hSw); go_simp <;> with_reducible rfl
          try simp only [Act.put, List.setIfInBounds_toArray, List.set_cons_zero, List.set_cons_succ]
          refine wpAnyH_take (i := 16) (oi := ⟨some 89, _, _, _, _, _⟩) (v := ?_) rfl (by kernel_rfl) (by kernel_rfl) (by kernel_rfl) (fun _ _ _ h => h) (Or.inl ⟨by rfl, ?_⟩) (by assumption) ?_
          rotate_left
          · intro w hSw; (try dsimp only at hSw); go_simp <;> with_reducible rfl
          try simp only [Act.put, List.setIfInBounds_toArray, List.set_cons_zero, List.set_cons_succ]
          refine wpAnyH_take (i := 17) (oi := ⟨some 90, _, _, _, _, _⟩) (v := ?_) rfl (by kernel_rfl) (by kernel_rfl) (by kernel_rfl) (fun _ _ _ h => h) (Or.inl ⟨by rfl, ?_⟩) (by assumption) ?_
          rotate_left
          · intro w hSw; (try dsimp only at hSw); go_simp <;> with_reducible rfl
          try simp only [Act.put, List.setIfInBounds_toArray, List.set_cons_zero, List.set_cons_succ]
          refine wpAnyH_take (i := 18) (oi := ⟨some 91, _, _, _, _, _⟩) (v := ?_) rfl (by kernel_rfl) (by kernel_rfl) (by kernel_rfl) (fun _ _ _ h => h) (Or.inl ⟨by rfl, ?_⟩) (by assumption) ?_
          rotate_left
          · intro w hSw; (try dsimp only at hSw); go_simp <;> with_reducible rfl
          try simp only [Act.put, List.setIfInBounds_toArray, List.set_cons_zero, List.set_cons_succ]
          refine wpAnyH_take (i := 19) (oi := ⟨some 92, _, _, _, _, _⟩) (v := ?_) rfl (by kernel_rfl) (by kernel_rfl) (by kernel_rfl) (fun _ _ _ h => h) (Or.inl ⟨by rfl, ?_⟩) (by assumption) ?_
          rotate_left
          · intro w hSw; (try dsimp only at hSw); go_simp <;> with_reducible rfl
          try simp only [Act.put, List.setIfInBounds_toArray, List.set_cons_zero, List.set_cons_succ]
          refine wpAnyH_take (i := 20) (oi := ⟨some 93, _, _, _, _, _⟩) (v := ?_) rfl (by kernel_rfl) (by kernel_rfl) (by kernel_rfl) (fun _ _ _ h => h) (Or.inl ⟨by rfl, ?_⟩) (by assumption) ?_
          rotate_left
          · intro w hSw; (try dsimp only at hSw); go_simp <;> with_reducible rfl
          try simp only [Act.put, List.setIfInBounds_toArray, List.set_cons_zero, List.set_cons_succ]
          refine wpAnyH_take (i := 21) (oi := ⟨some 94, _, _, _, _, _⟩) (v := ?_) rfl (by kernel_rfl) (by kernel_rfl) (by kernel_rfl) (fun _ _ _ h => h) (Or.inl ⟨by rfl, ?_⟩) (by assumption) ?_
          rotate_left
          · intro w hSw; (try dsimp only at hSw); go_simp <;> with_reducible rfl
          try simp only [Act.put, List.setIfInBounds_toArray, List.set_cons_zero, List.set_cons_succ]
          refine wpAnyH_take (i := 22) (oi := ⟨some 95, _, _, _, _, _⟩) (v := undef) rfl (by kernel_rfl) (by kernel_rfl) (by kernel_rfl) (fun _ _ _ h => h) (Or.inr ⟨by rfl, rfl⟩) (by assumption) ?_
          try simp only [Act.put, List.setIfInBounds_toArray, List.set_cons_zero, List.set_cons_succ]
          refine wpAnyH_take (i := 23) (oi := ⟨some 96, _, _, _, _, _⟩) (v := undef) rfl (by kernel_rfl) (by kernel_rfl) (by kernel_rfl) (fun _ _ _ h => h) (Or.inr ⟨by rfl, rfl⟩) (by assumption) ?_
          try simp only [Act.put, List.setIfInBounds_toArray, List.set_cons_zero, List.set_cons_succ]
          refine wpAnyH_take (i := 24) (oi := ⟨some 97, _, _, _, _, _⟩) (v := undef) rfl (by kernel_rfl) (by kernel_rfl) (by kernel_rfl) (fun _ _ _ h => h) (Or.inr ⟨by rfl, rfl⟩) (by assumption) ?_
          try simp only [Act.put, List.setIfInBounds_toArray, List.set_cons_zero, List.set_cons_succ]
          refine wpAnyH_take (i := 25) (oi := ⟨some 98, _, _, _, _, _⟩) (v := undef) rfl (by kernel_rfl) (by kernel_rfl) (by kernel_rfl) (fun _ _ _ h => h) (Or.inr ⟨by rfl, rfl⟩) (by assumption) ?_
          try simp only [Act.put, List.setIfInBounds_toArray, List.set_cons_zero, List.set_cons_succ]
          refine wpAnyH_take (i := 26) (oi := ⟨some 99, _, _, _, _, _⟩) (v := undef) rfl (by kernel_rfl) (by kernel_rfl) (by kernel_rfl) (fun _ _ _ h => h) (Or.inr ⟨by rfl, rfl⟩) (by assumption) ?_
          try simp only [Act.put, List.setIfInBounds_toArray, List.set_cons_zero, List.set_cons_succ]
          refine wpAnyH_take (i := 27) (oi := ⟨some 100, _, _, _, _, _⟩) (v := undef) rfl (by kernel_rfl) (by kernel_rfl) (by kernel_rfl) (fun _ _ _ h => h) (Or.inr ⟨by rfl, rfl⟩) (by assumption) ?_
          try simp only [Act.put, List.setIfInBounds_toArray, List.set_cons_zero, List.set_cons_succ]
          refine wpAnyH_take (i := 28) (oi := ⟨some 101, _, _, _, _, _⟩) (v := undef) rfl (by kernel_rfl) (by kernel_rfl) (by kernel_rfl) (fun _ _ _ h => h) (Or.inr ⟨by rfl, rfl⟩) (by assumption) ?_
          try simp only [Act.put, List.setIfInBounds_toArray, List.set_cons_zero, List.set_cons_succ]
          refine wpAnyH_take (i := 29) (oi := ⟨some 102, _, _, _, _, _⟩) (v := ?_) rfl (by kernel_rfl) (by kernel_rfl) (by kernel_rfl) (fun _ _ _ h => h) (Or.inl ⟨by rfl, ?_⟩) (by assumption) ?_
          rotate_left
          · intro w hSw; (try dsimp only at hSw); go_simp <;> with_reducible rfl
          try simp only [Act.put, List.setIfInBounds_toArray, List.set_cons_zero, List.set_cons_succ]
          refine wpAnyH_take (i := 30) (oi := ⟨some 103, _, _, _, _, _⟩) (v := ?_) rfl (by kernel_rfl) (by kernel_rfl) (by kernel_rfl) (fun _ _ _ h => h) (Or.inl ⟨by rfl, ?_⟩) (by assumption) ?_
          rotate_left
          · intro w hSw; (try dsimp only at hSw); go_simp <;> with_reducible rfl
          try simp only [Act.put, List.setIfInBounds_toArray, List.set_cons_zero, List.set_cons_succ]
          refine wpAnyH_done (by kernel_rfl) ?_ _
          all_goals
            go_wp2
            go_roundw
            case rel => exact ⟨k + 1, by omega, by go_num, hid (bgo BR.out HB11.out)⟩
            case measure => simp [intOf]; omega
        · have j3 : ¬ (k : Int) < (L7 : Int) := by omega
          have hyk : (K : Int) ≤ (y.1.step : Int) := by
            have e1 : (play m all).evs[k]? = some y.1 := by rw [← HEF.out, List.getElem?_map, hy1]; rfl
            rw [HUS.out, List.getElem?_append_right (by have := evs_len HEE.out; have := HL7.out; omega)] at e1
            have := HST.out _ (List.mem_of_getElem? e1)
            omega
          have j4 : decide ((k : Int) < (L7 : Int)) = false := by simp; omega
          have j5 : decide ((y.1.step : Int) < (K : Int)) = false := by simp; omega
          have j5n : decide (y.1.step < K) = false := by simp; omega
          have j4n : decide (k < L7) = false := by simp; omega
          clear hy1
          go_wp2_with fail
          go_quiet (fail)
          go_wp2
          go_roundw
          case rel => exact ⟨k + 1, by omega, by go_num, hid (below_drewN BR.out _)⟩
          case measure => simp [intOf]; omega
      · obtain rfl : k = L9 := by omega
        have j1 : ¬ (k : Int) < (k : Int) := by omega
        go_wp2
        go_ret
        exact ⟨rfl, bgo BW.out BR.out⟩
end Go.Proofs.YtljdnbdmfhcmpaaDoor
