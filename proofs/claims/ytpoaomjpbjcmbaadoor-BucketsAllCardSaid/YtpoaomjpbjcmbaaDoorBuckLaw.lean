/-
  BucketsAll: its walk.
-/
import Derived.Test.YtpoaomjpbjcmbaaDoorBuck
import Derived.Test.YtpoaomjpbjcmbaaDoorRollPt
namespace Go.Proofs.YtpoaomjpbjcmbaaDoor
open Go.RowKit
set_option linter.unusedVariables false
def offs (G : List Grp) (i : Nat) : Nat := ((G.take i).flatMap (·.2)).length
theorem grp_at {w : Int} {G : List Grp} {l : List (Int × Int)} (h : GrpIn w G l) (i : Nat) (g : Grp) (hg : G[i]? = some g) :
    offs G (i + 1) = offs G i + g.2.length ∧ offs G (i + 1) ≤ l.length ∧ (∀ (k : Nat) (x : Int × Int), g.2[k]? = some x → l[offs G i + k]? = some x) ∧ (G.take (i + 1)).flatMap (·.2) = (G.take i).flatMap (·.2) ++ g.2 := by
  have e1 : (G.take (i + 1)).flatMap (·.2) = (G.take i).flatMap (·.2) ++ g.2 := by rw [take_next hg, List.flatMap_append]; simp
  have e2 : l = (G.take (i + 1)).flatMap (·.2) ++ (G.drop (i + 1)).flatMap (·.2) := by rw [← List.flatMap_append, List.take_append_drop, h.cat]
  refine ⟨by unfold offs; rw [e1, List.length_append], ?_, fun k x hx => ?_, e1⟩
  · unfold offs; conv => rhs; rw [e2]
    rw [List.length_append]; omega
  · have hk := (List.getElem?_eq_some_iff.1 hx).1
    rw [e2, e1, List.append_assoc, List.getElem?_append_right (by unfold offs; omega), show offs G i + k - ((G.take i).flatMap (·.2)).length = k by unfold offs; omega, List.getElem?_append_left hk]
    exact hx
theorem offs_all {w : Int} {G : List Grp} {l : List (Int × Int)} (h : GrpIn w G l) : offs G G.length = l.length := by
  unfold offs; rw [List.take_length, h.cat]
theorem gRoll_c (g : Grp) : (gRoll g).c = (g.2.length : Int) := by unfold gRoll; rw [rAll_c]; unfold vals; rw [List.length_map]
theorem one_in : SmpsIn [((-1 : Int), (0 : Int))] := by
  refine ⟨by simp, ?_⟩
  intro k x y hx hy
  have := (List.getElem?_eq_some_iff.1 hy).1; simp at this
theorem sees8 {W w' : World} {a1 a2 a3 a4 a5 a6 a7 a8 : Addr} {u1 u2 u3 u4 u5 u6 u7 u8 : Value} (h : Below W.heap.size W w') (h1 : W.cell? a1 = some u1) (h2 : W.cell? a2 = some u2) (h3 : W.cell? a3 = some u3) (h4 : W.cell? a4 = some u4) (h5 : W.cell? a5 = some u5) (h6 : W.cell? a6 = some u6) (h7 : W.cell? a7 = some u7) (h8 : W.cell? a8 = some u8) :
    Below W.heap.size W w' ∧ w'.cell? a1 = some u1 ∧ w'.cell? a2 = some u2 ∧ w'.cell? a3 = some u3 ∧ w'.cell? a4 = some u4 ∧ w'.cell? a5 = some u5 ∧ w'.cell? a6 = some u6 ∧ w'.cell? a7 = some u7 ∧ w'.cell? a8 = some u8 :=
  ⟨h, cell_below h h1, cell_below h h2, cell_below h h3, cell_below h h4, cell_below h h5, cell_below h h6, cell_below h h7, cell_below h h8⟩
set_option maxHeartbeats 4000000 in
set_option maxRecDepth 100000 in
theorem law_bucketsAll (A : Option Addr) (n c : Nat) (l : List (Int × Int × Bool)) (a b : Int) (w : World) (hn : n ≤ c) (hc : c ≤ maxLen) (_ : c * 24 ≤ 140737488351232) (hx : Sl w 3 A n (l.flatMap gD)) (hd : ∀ d ∈ l, DotOk d) (ha : -9223372036854775808 ≤ a) (ha1 : a ≤ 9223372036854775807) (hb : -9223372036854775808 ≤ b) (hb1 : b ≤ 9223372036854775807) (ht : ZTab w) :
    Calls Tryd.prog 11 #[.slice A n c, .int .i64 a, .int .i64 b] w fun e w' => e = .returned (.bool true) ∧ Below w.heap.size w w' := by
  have HX := hid hx; have HD := hid hd; have HT := hid ht; clear hx hd ht
  go_enter Tryd.func11, Tryd.ntmps11
  go_wp2_with fail
  refine (samples A n c l a 90 w hn hc HX.out HD.out ha ha1 (by omega)).mono ?_
  rintro e w1 ⟨v1, rfl, ho1⟩
  obtain ⟨hin, hlen⟩ := smps_in a ha ha1 l HD.out 90
  have HSI := hid hin
  obtain ⟨s, hs⟩ : ∃ s, smps l a 90 = s := ⟨_, rfl⟩
  rw [hs] at ho1 HSI hlen
  clear hin hs
  obtain ⟨A1, c1, rfl, hc1, hc2⟩ := ho1.form
  have HO1 := hid ho1; clear ho1
  obtain ⟨m, hm⟩ : ∃ m, s.length = m := ⟨_, rfl⟩
  rw [hm] at HO1 hc1 hlen ⊢
  have HM := hid hm
  clear hm
  unfold maxLen at hc2
  go_wp2_with fail
  refine (picked b 500 w1 (by omega) hb hb1 (by omega)).mono ?_
  rintro e w1 ⟨rfl, rfl⟩
  have hpk := pk_lt b 500 (by omega)
  generalize pk b 500 = d0 at *
  obtain ⟨wd, hwd⟩ : ∃ wd : Int, 1 + (d0 : Int) = wd := ⟨_, rfl⟩
  have hwd1 : 1 ≤ wd := by omega
  have hwd2 : wd ≤ 500 := by omega
  have e1 : wrap64 (1 + (d0 : Int)) = wd := by rw [hwd]; exact IntWalk.wrap64_in _ ⟨by omega, by omega⟩
  clear hpk
  go_wp2_with fail
  refine (roll_Buckets A1 m c1 s wd w1 (by omega) HO1.out.sl HSI.out ⟨hwd1, by omega⟩ (HT.out.below HO1.out.below)).mono ?_
  rintro e w2 ⟨v1, v2, rfl, ho2, ho3⟩
  have HGI := hid (grp_in wd (by omega) s HSI.out.up)
  obtain ⟨G, hG⟩ : ∃ G, grp wd s = G := ⟨_, rfl⟩
  rw [hG] at ho2 ho3 HGI
  obtain ⟨A2, c2, rfl, hc3, hc4⟩ := ho2.form
  obtain ⟨A3, c3, rfl, hc5, hc6⟩ := ho3.form
  obtain ⟨g, hg⟩ : ∃ g, G.length = g := ⟨_, rfl⟩
  have hgm := grp_len wd G s HGI.out
  rw [hg, HM.out] at hgm
  rw [List.length_map, hg] at ho2 ho3 hc3 hc5
  rw [List.length_map, List.length_map, hg]
  have HOB := hid ho2; have HOR := hid ho3
  have HGL := hid hg
  clear ho2 ho3 hG hg hwd e1
  unfold maxLen at hc4 hc6
  have HOS := hid (HO1.out.step HOB.out.below)
  obtain ⟨al, hal⟩ : ∃ r, rAll (vals s) = r := ⟨_, rfl⟩
  have HAL := hid hal
  clear hal
  go_wp2_with fail
  refine (roll_Of A1 m c1 s w2 (by omega) HOS.out.sl HSI.out (HT.out.below HOS.out.below)).mono ?_
  rw [HAL.out]
  rintro e w3 ⟨rfl, hb3⟩
  have HOS3 := hid (HOS.out.step hb3); have HOB3 := hid (HOB.out.step hb3); have HOR3 := hid (HOR.out.step hb3)
  clear hb3
  obtain ⟨al0, al1, al2, al3⟩ := al
  go_wp2_with fail
  have KA := hid ((Blk.new w3 35 (R4.mk al0 al1 al2 al3).cs).alloc (.cells r0.cs 35))
  have KS := hid (Blk.new1 w3 (.cells (R4.mk al0 al1 al2 al3).cs 35) 35 r0.cs)
  have HOS4 := hid ((HOS3.out.alloc (.cells (R4.mk al0 al1 al2 al3).cs 35)).alloc (.cells r0.cs 35))
  have HOB4 := hid ((HOB3.out.alloc (.cells (R4.mk al0 al1 al2 al3).cs 35)).alloc (.cells r0.cs 35))
  have HOR4 := hid ((HOR3.out.alloc (.cells (R4.mk al0 al1 al2 al3).cs 35)).alloc (.cells r0.cs 35))
  have HNS := hid (show ∀ k, (Value.slice A1 m c1).ownBlock = some k → k ≠ w3.heap.size + 1 from fun k hk => by have := own_lt HOS3.out.own hk; omega)
  have HNB := hid (show ∀ k, (Value.slice A2 g c2).ownBlock = some k → k ≠ w3.heap.size + 1 from fun k hk => by have := own_lt HOB3.out.own hk; omega)
  have HNR := hid (show ∀ k, (Value.slice A3 g c3).ownBlock = some k → k ≠ w3.heap.size + 1 from fun k hk => by have := own_lt HOR3.out.own hk; omega)
  have hge : w1.heap.size ≤ w3.heap.size := HOB3.out.below.size
  have hge0 : w.heap.size ≤ w3.heap.size := HOS3.out.below.size
  obtain ⟨gl, hgl⟩ : ∃ gl, w3.heap.size = gl := ⟨_, rfl⟩
  rw [hgl] at KA KS HNS HNB HNR hge hge0
  rw [hgl]
  have eA : (.cells #[.int .i64 al0, .int .i64 al1, .int .i64 al2, .int .i64 al3] 35 : Obj) = .cells (R4.mk al0 al1 al2 al3).cs 35 := rfl
  have eS : (.cells #[.int .i64 0, .int .i64 0, .int .i64 0, .int .i64 0] 35 : Obj) = .cells r0.cs 35 := rfl
  rw [eA, eS]
  clear eA eS hgl HOS HOB HOR HOS3 HOB3 HOR3
  generalize (w3.alloc (.cells (R4.mk al0 al1 al2 al3).cs 35)).alloc (.cells r0.cs 35) = w4 at *
  go_loopw [15, 16] (fun at_ i wr => ∃ (q : Nat) (Q : Int) (rs : R4), q ≤ g ∧ i = .int .i64 Q ∧ Hid (Q = (q : Int)) ∧ at_ = .int .i64 (offs G q : Int) ∧ Hid (rAll (vals ((G.take q).flatMap (·.2))) = rs) ∧ Blk wr (gl + 1) 35 rs.cs ∧ Chg (fun k => k = gl + 1) w4 wr) (fun _ i _ => g - (intOf i).toNat)
  case atStart => exact ⟨0, 0, r0, Nat.zero_le _, rfl, hid rfl, rfl, hid rfl, KS.out, Chg.refl _ _⟩
  case round =>
    obtain ⟨q, Q, rs, hq, rfl, HQ, rfl, HRS, hks, hch⟩ := hrel
    have HKS := hid hks
    have HOSr := hid (HOS4.out.chgB hch (fun k hk e => HNS.out k hk e) (fun k e => by omega))
    have HOBr := hid (HOB4.out.chgB hch (fun k hk e => HNB.out k hk e) (fun k e => by omega))
    have HORr := hid (HOR4.out.chgB hch (fun k hk e => HNR.out k hk e) (fun k e => by omega))
    have HKA := hid (hch.blk KA.out (by omega))
    have HCH := hid hch
    clear hch hks
    by_cases hlt : q < g
    · obtain ⟨gq, hgq⟩ : ∃ x, G[q]? = some x := ⟨_, List.getElem?_eq_getElem (by rw [HGL.out]; exact hlt)⟩
      obtain ⟨o1, o2, o3, o4⟩ := grp_at HGI.out q gq hgq
      have hne := HGI.out.ne gq (List.mem_of_getElem? hgq)
      have hat := HGI.out.at_ gq (List.mem_of_getElem? hgq)
      have hL1 : 1 ≤ gq.2.length := List.length_pos_iff.2 hne
      obtain ⟨x0, t0, hx0⟩ : ∃ x t, gq.2 = x :: t := by
        cases h : gq.2 with
        | nil => exact absurd h hne
        | cons x t => exact ⟨x, t, rfl⟩
      have hTx : flr x0.1 wd = gq.1 := hat x0 (by rw [hx0]; simp)
      have hx0b := HSI.out.bd x0 (List.mem_of_getElem? (o3 0 x0 (by rw [hx0]; rfl)))
      have hfl := flr_bd x0.1 wd (by omega)
      have hmod : Int.tmod gq.1 wd = 0 := by
        rw [← hTx]
        exact Int.tmod_eq_zero_of_dvd (Int.dvd_of_emod_eq_zero (flr_mod x0.1 wd (by omega)))
      rw [hTx] at hfl
      obtain ⟨b2, rfl⟩ := HOBr.out.ad (by rw [List.length_map, HGL.out]; omega)
      obtain ⟨b3, rfl⟩ := HORr.out.ad (by rw [List.length_map, HGL.out]; omega)
      have hbq : (G.map gBeg)[q]? = some (gBeg gq) := by rw [List.getElem?_map, hgq]; rfl
      have hrq : (G.map gRoll)[q]? = some (gRoll gq) := by rw [List.getElem?_map, hgq]; rfl
      have tb0 : wr.cell? ⟨b2, q * 2, none⟩ = some (.int .i64 gq.1) := (HOBr.out.cellG (g := gP) (j := 0) (fun _ => rfl) hbq rfl).1
      have tr0 : wr.cell? ⟨b3, q * 4, none⟩ = some (.int .i64 (gRoll gq).c) := (HORr.out.cellG (g := gR) (j := 0) (fun _ => rfl) hrq rfl).1
      rw [gRoll_c] at tr0
      obtain ⟨T, hT⟩ : ∃ T, gq.1 = T := ⟨_, rfl⟩
      obtain ⟨L, hL⟩ : ∃ L, gq.2.length = L := ⟨_, rfl⟩
      obtain ⟨o, ho⟩ : ∃ o, offs G q = o := ⟨_, rfl⟩
      rw [hT] at hmod hfl tb0
      rw [hL] at tr0 hL1 o1
      rw [ho] at o1 o3
      rw [o1, HM.out] at o2
      rw [ho]
      have HGQ := hid hgq; have HO3 := hid o3; have HO4 := hid o4; have HO1' := hid o1
      have HAT := hid hat; have HX0 := hid hx0; have HT' := hid hT; have HL' := hid hL; have HBQ := hid hbq; have HRQ := hid hrq; have HHO := hid ho
      have hTb : -18014398509482484 ≤ T ∧ T ≤ 18014398509481984 := by omega
      clear hne hat hx0 hTx hx0b hfl hbq hrq o3 o4 o1 hT hL ho
      have d1 : (wd == 0) = false := beqF (by omega)
      have d2 : ¬ wd = 0 := by omega
      have d3 : ¬ (L : Int) < 1 := by omega
      have d4 : wrap64 ((m : Int) - (o : Int)) = (m : Int) - (o : Int) := IntWalk.wrap64_in _ ⟨by omega, by omega⟩
      have d5 : IntKind.i64.wrap ((m : Int) - (o : Int)) = (m : Int) - (o : Int) := IntWalk.i64_in _ (by omega)
      have d6 : ¬ (m : Int) - (o : Int) < (L : Int) := by omega
      have hQq := HQ.out
      have d7 : Q < (g : Int) := by omega
      have d8 : (0 : Int) ≤ Q := by omega
      have d9 : Q.toNat = q := by omega
      have da : wrap64 (Q + 1) = Q + 1 := IntWalk.wrap64_in _ ⟨by omega, by omega⟩
      have db : IntKind.i64.wrap (Q + 1) = Q + 1 := IntWalk.i64_in _ (by omega)
      have D3 := hid (show decide ((L : Int) < 1) = false from decide_eq_false d3)
      have D6 := hid (show decide ((m : Int) - (o : Int) < (L : Int)) = false from decide_eq_false d6)
      have hqq : q = 0 ∨ 0 < q := by omega
      rcases hqq with hq0 | hq0
      all_goals
        (first
          | (have HJ := hid (show ¬ (0 : Int) < Q by omega)
             have HJ2 := hid (show decide ((0 : Int) < Q) = false from decide_eq_false (by omega))
             clear hq0)
          | (obtain ⟨hp, hhp⟩ : ∃ x, G[q - 1]? = some x := ⟨_, List.getElem?_eq_getElem (by rw [HGL.out]; omega)⟩
             have hup := HGI.out.up (q - 1) hp gq hhp (by rw [show q - 1 + 1 = q by omega]; exact HGQ.out)
             rw [HT'.out] at hup
             have hbp : (G.map gBeg)[q - 1]? = some (gBeg hp) := by rw [List.getElem?_map, hhp]; rfl
             have tbp : wr.cell? ⟨b2, (q - 1) * 2, none⟩ = some (.int .i64 hp.1) := (HOBr.out.cellG (g := gP) (j := 0) (fun _ => rfl) hbp rfl).1
             have jz : ¬ T ≤ hp.1 := by omega
             have j1 : IntKind.i64.wrap (Q - 1) = Q - 1 := IntWalk.i64_in _ (by omega)
             have j3 : (0 : Int) ≤ Q - 1 := by omega
             have j4 : Q - 1 < (g : Int) := by omega
             have j5 : (Q - 1).toNat = q - 1 := by omega
             have j8 : wrap64 (Q - 1) = Q - 1 := IntWalk.wrap64_in _ ⟨by omega, by omega⟩
             have j9 : (1 : Int) ≤ Q := by omega
             have ja : (0 : Int) < Q := by omega
             have HJ := hid jz
             have HJ2 := hid ja
             clear hhp hbp hup))
        clear hQq
        go_wp2_with fail
        have jx := HJ2.out
        have jd3 := D3.out
        have jd6 := D6.out
        clear HJ
        go_quiet (fail)
        have hbx := below_drewN (bnil wr) nq
        clear jx jd3 jd6
        generalize wr.drewN nq = wx at *
        go_wp2_with fail
        have HBX := hid hbx
        have tb1 : wr.cell? ⟨b2, q * 2 + 1, none⟩ = some (.int .i64 x0.2) := by
          have h9 := (HOBr.out.cellG (g := gP) (j := 1) (fun _ => rfl) HBQ.out rfl).1
          have e9 : (gBeg gq).2 = x0.2 := by unfold gBeg; rw [HX0.out]; rfl
          rw [e9] at h9; exact h9
        have TB0 := hid tb0; have TB1 := hid tb1; have TR0 := hid tr0
        clear d1 d2 d3 d4 d5 d6 hbx tb0 tb1 tr0 D3 D6 HJ2
        obtain ⟨W0, hW0⟩ : ∃ W0, W0 = wr := ⟨wr, rfl⟩
        subst hW0
        go_loopw [15, 17] (fun at_ k' w' => ∃ (j : Nat) (J P : Int), j ≤ L ∧ k' = .int .i64 J ∧ Hid (J = (j : Int)) ∧ at_ = .int .i64 P ∧ Hid (P = ((o + j : Nat) : Int)) ∧ Below W0.heap.size W0 w') (fun _ k' _ => L - (intOf k').toNat)
        case atStart => exact ⟨0, 0, (o : Int), Nat.zero_le _, rfl, hid rfl, rfl, hid rfl, HBX.out⟩
        case round =>
          obtain ⟨j, J, P, hj, rfl, HJJ, rfl, HPP, hbj⟩ := hrel
          have HBJ := hid hbj; clear hbj
          have tr0 := cell_below HBJ.out TR0.out
          have hJj := HJJ.out; have hPp := HPP.out
          by_cases hltj : j < L
          · obtain ⟨x, hxj⟩ : ∃ x, gq.2[j]? = some x := ⟨_, List.getElem?_eq_getElem (by rw [HL'.out]; exact hltj)⟩
            have hxs := HO3.out j x hxj
            have hTx := HAT.out x (List.mem_of_getElem? hxj)
            have hfl := flr_bd x.1 wd (by omega)
            rw [hTx, HT'.out] at hfl
            obtain ⟨ad1, x', rfl, hx', s0, s1⟩ := (HOSr.out.step HBJ.out).sl.atS (k := o + j) (by omega)
            obtain rfl : x' = x := by rw [hx'] at hxs; injection hxs
            have tb0 := cell_below HBJ.out TB0.out
            have tb1 := cell_below HBJ.out TB1.out
            have hval : j = 0 → x'.2 = x0.2 := by
              intro h; subst h
              rw [HX0.out] at hxj; simp at hxj; rw [hxj]
            obtain ⟨xt, xv⟩ := x'
            simp only at s0 s1 hfl hval
            have g1 : J < (L : Int) := by omega
            have g2 : (0 : Int) ≤ P := by omega
            have g3 : P < (m : Int) := by omega
            have g4 : P.toNat = o + j := by omega
            have g5 : wrap64 (P + 1) = P + 1 := IntWalk.wrap64_in _ ⟨by omega, by omega⟩
            have g6 : IntKind.i64.wrap (P + 1) = P + 1 := IntWalk.i64_in _ (by omega)
            have g7 : wrap64 (J + 1) = J + 1 := IntWalk.wrap64_in _ ⟨by omega, by omega⟩
            have g8 : IntKind.i64.wrap (J + 1) = J + 1 := IntWalk.i64_in _ (by omega)
            have g9 : wrap64 (T + wd) = T + wd := IntWalk.wrap64_in _ ⟨by omega, by omega⟩
            have ga : IntKind.i64.wrap (T + wd) = T + wd := IntWalk.i64_in _ (by omega)
            have F1 := hid (show decide (xt < T) = false from decide_eq_false (by omega))
            have F2 := hid (show decide (T + wd ≤ xt) = false from decide_eq_false (by omega))
            have hlast : Hid (((J == 0) = true ∧ (xv != x0.2) = false) ∨ (J == 0) = false) := by
              by_cases h0 : j = 0
              · exact hid (.inl ⟨beqT (by omega), by rw [hval h0]; simp⟩)
              · exact hid (.inr (beqF (by omega)))
            clear hxj hxs hTx hfl hx' hval hJj hPp
            rcases hlast.out with ⟨f3, f4⟩ | f3
            all_goals
              go_wp2_with fail
              have f1 := F1.out
              have f2 := F2.out
              go_quiet (fail)
              go_wp2
              go_roundw
              case rel => exact ⟨j + 1, J + 1, P + 1, by omega, rfl, hid (by rw [HJJ.out]; omega), rfl, hid (by rw [HPP.out]; omega), below_drewN HBJ.out _⟩
              case measure => (have := HJJ.out; simp [intOf]; omega)
          · obtain rfl : j = L := by omega
            clear hJj hPp
            obtain rfl : J = (j : Int) := HJJ.out
            obtain ⟨R, hR⟩ : ∃ R, gRoll gq = R := ⟨_, rfl⟩
            have hrq := HRQ.out
            rw [hR] at hrq
            have hvm : ∀ (l : List (Int × Int)), (∀ x ∈ l, x ∈ s) → l.length ≤ 120 → MayOk (rAll (vals l)) := fun l h1 h2 =>
              rAll_may _ (by unfold vals; rw [List.length_map]; exact h2) fun v hv => by
                obtain ⟨x, hx, rfl⟩ := List.mem_map.1 hv
                exact (HSI.out.bd x (h1 x hx)).2.2
            have hin : ∀ i, ∀ x ∈ (G.take i).flatMap (·.2), x ∈ s := fun i x hx => by
              obtain ⟨g9, h1, h2⟩ := List.mem_flatMap.1 hx
              rw [← HGI.out.cat]
              exact List.mem_flatMap.2 ⟨g9, List.mem_of_mem_take h1, h2⟩
            have m1 : MayOk rs := by
              rw [← HRS.out]
              refine hvm _ (hin q) ?_
              have := HHO.out; unfold offs at this; omega
            have m2 : MayOk R := by
              rw [← hR]
              refine hvm gq.2 (fun x hx => hin (q + 1) x (by rw [HO4.out]; exact List.mem_append_right _ hx)) ?_
              rw [HL'.out]; omega
            obtain ⟨rs', hrs'⟩ : ∃ r, rAll (vals ((G.take (q + 1)).flatMap (·.2))) = r := ⟨_, rfl⟩
            have m3 : MayOk rs' := by
              rw [← hrs']
              refine hvm _ (hin (q + 1)) ?_
              have := HO1'.out; unfold offs at this; omega
            have e0 : rJoin rs R = rs' := by
              rw [← HRS.out, ← hR, ← hrs', HO4.out, vals_app]
              exact rAll_app _ _
            have HJ := fun W => hid (join_to rs R rs' W m1 m2 m3 e0 (bnil W))
            have HRS' := hid hrs'
            have HKSj := hid (HKS.out.below' HBJ.out)
            have HORj := hid (HORr.out.step HBJ.out)
            have HRQ2 := hid hrq
            clear m1 m2 m3 e0 hvm hin hrq hR hrs' tr0
            have tr0 := cell_below HBJ.out TR0.out
            go_wp2_with fail
            clear tr0
            obtain ⟨k0, k1, k2, k3⟩ := blk4 HKSj.out
            have z0 : wr.cell? ⟨b3, q * 4, none⟩ = some (.int .i64 R.c) := (HORj.out.cellG (g := gR) (j := 0) (fun _ => rfl) HRQ2.out rfl).1
            have z1 : wr.cell? ⟨b3, q * 4 + 1, none⟩ = some (.int .i64 R.mn) := (HORj.out.cellG (g := gR) (j := 1) (fun _ => rfl) HRQ2.out rfl).1
            have z2 : wr.cell? ⟨b3, q * 4 + 2, none⟩ = some (.int .i64 R.mx) := (HORj.out.cellG (g := gR) (j := 2) (fun _ => rfl) HRQ2.out rfl).1
            have z3 : wr.cell? ⟨b3, q * 4 + 3, none⟩ = some (.int .i64 R.sm) := (HORj.out.cellG (g := gR) (j := 3) (fun _ => rfl) HRQ2.out rfl).1
            obtain ⟨rc, rn, rx, rz⟩ := rs'
            have HBd := hid (bnew (bnil wr) (.cells r0.cs 35)).drew
            have HKSd : Hid (Blk (wr.alloc (.cells r0.cs 35)).drew (gl + 1) 35 rs.cs) := hid (HKSj.out.below' HBd.out)
            have HNd : Hid (Blk (wr.alloc (.cells r0.cs 35)).drew wr.heap.size 35 r0.cs) := hid (Blk.new wr 35 r0.cs)
            have hlt3 : b3 < wr.heap.size := World.block_lt_of_cell? wr _ z0
            have hltg : gl + 1 < wr.heap.size := World.block_lt_of_cell? wr _ k0
            go_region_with (first
              | (refine (HJ _).out.mono ?_; rintro e w9 ⟨rfl, hb9⟩; have HN9 := hid (HNd.out.below' hb9); obtain ⟨y0, y1, y2, y3⟩ := blk4 HN9.out; have f0 := HN9.out.frozen 0; have f1 := HN9.out.frozen 1; have f2 := HN9.out.frozen 2; have f3 := HN9.out.frozen 3; have hlt9 := HN9.out.lt)
              | (refine (HJ _).out.mono ?_; rintro e w9 ⟨rfl, hb9⟩; have HD9 := hid (show Below wr.drew.heap.size wr.drew w9 from hb9)))
            all_goals
              (first
                | (
                   have HB9 := hid (bgo' hb9 HBd.out)
                   have HNN := hid (fill4 (x := .int .i64 rc) (y := .int .i64 rn) (z := .int .i64 rx) (u := .int .i64 rz) HN9.out)
                   have HWB := hid (fill4b (x := .int .i64 rc) (y := .int .i64 rn) (z := .int .i64 rx) (u := .int .i64 rz) HB9.out (Nat.le_refl _))
                   clear k0 k1 k2 k3 z0 z1 z2 z3 y0 y1 y2 y3 f0 f1 f2 f3
                   generalize ((((w9.setCell ⟨wr.heap.size, 0, none⟩ (.int .i64 rc)).setCell ⟨wr.heap.size, 1, none⟩ (.int .i64 rn)).setCell ⟨wr.heap.size, 2, none⟩ (.int .i64 rx)).setCell ⟨wr.heap.size, 3, none⟩ (.int .i64 rz)) = w10 at *
                   obtain ⟨tb, htb⟩ : ∃ tb, wr.heap.size = tb := ⟨_, rfl⟩
                   rw [htb] at HNN ⊢)
                | (
                   have HB9 := hid (bgo' HD9.out (bnil wr).drew)
                   have HNN := hid (Blk.new w9 35 #[.int .i64 rc, .int .i64 rn, .int .i64 rx, .int .i64 rz])
                   have HWB := hid (bnew HB9.out (.cells #[.int .i64 rc, .int .i64 rn, .int .i64 rx, .int .i64 rz] 35))
                   clear k0 k1 k2 k3 z0 z1 z2 z3
                   generalize w9.alloc (.cells #[.int .i64 rc, .int .i64 rn, .int .i64 rx, .int .i64 rz] 35) = w10 at *
                   obtain ⟨tb, htb⟩ : ∃ tb, w9.heap.size = tb := ⟨_, rfl⟩
                   rw [htb] at HNN ⊢))
              have HKK := hid (HKSj.out.below' HWB.out)
              have t0 : w10.cell? ⟨tb, 0, none⟩ = some (.int .i64 rc) := HNN.out.cell 0
              have t1 : w10.cell? ⟨tb, 1, none⟩ = some (.int .i64 rn) := HNN.out.cell 1
              have t2 : w10.cell? ⟨tb, 2, none⟩ = some (.int .i64 rx) := HNN.out.cell 2
              have t3 : w10.cell? ⟨tb, 3, none⟩ = some (.int .i64 rz) := HNN.out.cell 3
              obtain ⟨k0, k1, k2, k3⟩ := blk4 HKK.out
              have f0 := HKK.out.frozen 0
              have f1 := HKK.out.frozen 1
              have f2 := HKK.out.frozen 2
              have f3 := HKK.out.frozen 3
              have hltk := HKK.out.lt
              have q1 : wrap64 (Q + 1) = Q + 1 := da
              go_wp2_with fail
              have HK11 := hid (fill4 (x := .int .i64 rc) (y := .int .i64 rn) (z := .int .i64 rx) (u := .int .i64 rz) HKK.out)
              have hch1 := HCH.out.trans (Chg.of_below (M := fun k => k = gl + 1) (bgo HBJ.out HWB.out) (fun k h1 h2 => by omega)) (fun _ _ h => h)
              have hch2 := (((hch1.setCell (p := ⟨gl + 1, 0, none⟩) (fun _ => rfl) (.int .i64 rc)).setCell (p := ⟨gl + 1, 1, none⟩) (fun _ => rfl) (.int .i64 rn)).setCell (p := ⟨gl + 1, 2, none⟩) (fun _ => rfl) (.int .i64 rx)).setCell (p := ⟨gl + 1, 3, none⟩) (fun _ => rfl) (.int .i64 rz)
              go_roundw
              case rel => exact ⟨q + 1, Q + 1, ⟨rc, rn, rx, rz⟩, by omega, rfl, hid (by rw [HQ.out]; omega), (by rw [HPP.out, HO1'.out]), HRS', HK11.out, hch2⟩
              case measure => (have := HQ.out; simp [intOf]; omega)
    · obtain rfl : q = g := by omega
      obtain rfl : Q = (q : Int) := HQ.out
      have ho : offs G q = m := by have := offs_all HGI.out; rw [HGL.out, HM.out] at this; exact this
      have hrs : rs = ⟨al0, al1, al2, al3⟩ := by
        rw [← HRS.out, List.take_of_length_le (by rw [HGL.out]; exact Nat.le_refl _), HGI.out.cat, HAL.out]
      subst hrs
      rw [ho]
      have HTr := hid (HT.out.below HOSr.out.below)
      clear ho
      go_wp2_with fail
      refine (roll_Buckets _ 1 1 [(-1, 0)] 10 _ (by omega) (Sl.fresh wr #[.int .i64 (-1), .int .i64 0] 26 2 1 rfl) one_in ⟨by decide, by decide⟩ (HTr.out.below (bnew (bnil _) _))).mono ?_
      rintro e w5 ⟨v5, v6, rfl, ho5, ho6⟩
      rw [show (grp 10 [((-1 : Int), (0 : Int))]).map gBeg = [((-10 : Int), (0 : Int))] by decide] at ho5
      obtain ⟨A5, c5, rfl, h1, h2⟩ := ho5.form
      obtain ⟨b5, rfl⟩ := ho5.ad (by decide)
      have t5 : w5.cell? ⟨b5, 0, none⟩ = some (.int .i64 (-10)) := (ho5.cellG (i := 0) (j := 0) (g := gP) (fun _ => rfl) (x := (-10, 0)) rfl rfl).1
      have HB5 := hid (bgo (bnew (bnil wr) _) ho5.below)
      simp only [List.length_singleton] at h1 ⊢
      clear ho5 ho6
      obtain ⟨k0, k1, k2, k3⟩ := blk4 (HKS.out.below' HB5.out)
      obtain ⟨y0, y1, y2, y3⟩ := blk4 (HKA.out.below' HB5.out)
      simp only at k0 k1 k2 k3 y0 y1 y2 y3
      have r0' := beqT (show al0 = al0 from rfl)
      have r1' := beqT (show al1 = al1 from rfl)
      have r2' := beqT (show al2 = al2 from rfl)
      have r3' := beqT (show al3 = al3 from rfl)
      have r4' := beqT (show (m : Int) = (m : Int) from rfl)
      go_wp2_with fail
      go_ret
      exact ⟨rfl, bgo HOSr.out.below HB5.out⟩
end Go.Proofs.YtpoaomjpbjcmbaaDoor
