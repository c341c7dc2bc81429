/-
  OnceOne: its walk.
-/
import Derived.Test.YtnoinojhocicjaaDoorOnceAt
namespace Go.Proofs.YtnoinojhocicjaaDoor
open Go.RowKit
set_option linter.unusedVariables false

/-- what is left of the plain law: the calls of a run -/
structure OnceR (l : List Nat) (ds : List Dg) : Prop where
  told : ∀ (k : Nat) (d : Dg) (e : Nat), ds[k]? = some d → d.e = some e → d.told = [1] ∨ d.told = [0]
  open_ : ∀ (k : Nat) (d : Dg), ds[k]? = some d → d.e = none → d.told = []
  another : ∀ (k : Nat) (d : Dg) (e : Nat), ds[k]? = some d → d.e = some e → d.told = [0] → ∃ (k' : Nat) (d' : Dg), ds[k']? = some d' ∧ k' ≠ k ∧ d'.b < e ∧ (d'.e = none ∨ d'.told = [1])
  one : ∀ (j k : Nat) (d d' : Dg), ds[j]? = some d → ds[k]? = some d' → d.told = [1] → d'.told = [1] → j = k
  spent : ∀ (k : Nat) (d : Dg), ds[k]? = some d → spentOf d l ≤ 3
  time : ∀ (k : Nat) (d : Dg), ds[k]? = some d → d.b ≤ l.length ∧ ∀ e, d.e = some e → d.b ≤ e ∧ e < l.length
theorem once_res (l : List Nat) : OnceR l (doings (play onceMach l).evs) := by
  have H := (once_play l).1
  have D := play_di onceMach l
  have hopen : ∀ (k : Nat) (d : Dg), (doings (play onceMach l).evs)[k]? = some d → d.e = none → d.told = [] := fun k d hk he => D.quiet k d hk he
  refine ⟨fun k d e hk he => ?_, hopen, fun k d e hk he ht => ?_, fun j k d d' hj hk h1 h2 => ?_, fun k d hk => ?_, fun k d hk => ⟨Nat.le_of_lt (D.time k d hk).1, fun e he => (D.time k d hk).2 e he⟩⟩
  · rcases H.z k d e hk he with h | ⟨h, _⟩
    · exact .inl h
    · exact .inr h
  · rcases H.z k d e hk he with h | ⟨_, k', d', h1, h2, h3, h4⟩
    · rw [ht] at h; exact absurd h (by decide)
    · refine ⟨k', d', h1, h2, h3, ?_⟩
      rcases h4 with ⟨_, h4⟩ | ⟨h4, _⟩
      · exact .inr h4
      · exact .inl h4
  · have w1 : ∀ {k : Nat} {d : Dg}, (doings (play onceMach l).evs)[k]? = some d → d.told = [1] → Wins (play onceMach l).ths d := by
      intro k d hk h
      refine .inl ⟨fun e => ?_, h⟩
      rw [hopen k d hk e] at h; cases h
    exact H.u j k d d' hj hk (w1 hj h1) (w1 hk h2)
  · cases he : d.e with
    | none =>
      obtain ⟨nx, t, h1, h2⟩ := H.c2 k d hk he
      have h3 : spentOf d l = cnt l d.b l.length d.t := by unfold spentOf cnt; rw [he]; rfl
      rw [h3, h2]
      obtain ⟨_, h4⟩ := H.th _ _ _ _ h1
      rcases h4 with rfl | rfl | ⟨v, rfl, _⟩ <;> simp [onceTh]
    | some e =>
      have h1 := H.c1 k d e hk he
      have h3 : spentOf d l = cnt l d.b (e + 1) d.t := by
        unfold spentOf cnt; rw [he]
        have := ((D.time k d hk).2 e he).2
        show List.count d.t (((l.drop d.b).take (min l.length (e + 1) - d.b))) = _
        rw [Nat.min_eq_right (by omega)]
      rw [h3, h1]
      exact Nat.le_refl _
/-- what the inner loop has seen of the others -/
structure OnceIn (ds : List Dg) (d : Dg) (k e j : Nat) (ab : Bool) : Prop where
  own : d.told = [1] → ab = true
  oth : ∀ (j' : Nat) (d' : Dg), j' < j → ds[j']? = some d' → j' ≠ k → d'.b < e → (d'.e = none ∨ d'.told = [1]) → ab = true
theorem OnceIn.next {ds : List Dg} {d d2 : Dg} {k e j : Nat} {ab : Bool} (h : OnceIn ds d k e j ab) (h2 : ds[j]? = some d2) (ab' : Bool) (h3 : ab = true → ab' = true) (h4 : j ≠ k → d2.b < e → (d2.e = none ∨ d2.told = [1]) → ab' = true) : OnceIn ds d k e (j + 1) ab' := by
  refine ⟨fun a => h3 (h.own a), fun j' d' hj' hd' a b c => ?_⟩
  by_cases e1 : j' = j
  · subst e1
    have := h2.symm.trans hd'
    injection this with this
    subst this
    exact h4 a b c
  · exact h3 (h.oth j' d' (by omega) hd' a b c)
set_option maxHeartbeats 8000000 in
set_option maxRecDepth 100000 in
theorem law_onceOne (S : Option Addr) (p q : Nat) (bs : List UInt8) (w : World) (hp : p ≤ q) (hq : q ≤ maxLen) (_ : q * 1 ≤ 140737488351232) (hS : Sl w 1 S p (byts bs)) (hT : STab w) :
    Calls Tryd.prog 3 #[.slice S p q] w fun e w' => e = .returned (.bool true) ∧ Below w.heap.size w w' := by
  have HS := hid hS; have HT := hid hT
  clear hS hT
  have hpl : p ≤ 9223372036854775807 := by unfold maxLen at hq; omega
  clear hq
  go_enter Tryd.func3, Tryd.ntmps3
  go_wp2_with fail
  refine (once_machine w).mono ?_
  rintro e w1 hp1
  obtain ⟨AW, cW, Cb, T, cv, tv, av, rfl, hW, hM, b1⟩ := hp1
  have HM := hid hM; have B1 := hid b1; have HW := hid hW
  clear hM b1 hW
  obtain ⟨X, hX⟩ : ∃ X, w1.heap.size = X := ⟨_, rfl⟩
  go_wp2_with fail
  have HX0 := hid (blkN w1 27 #[.slice AW 1 cW, .slice (some ⟨Cb, 0, none⟩) 1 1, .slice (some ⟨T, 0, none⟩) 4 4] X hX)
  have BA := hid (bgo B1.out (bnew (bnil w1) (.cells #[.slice AW 1 cW, .slice (some ⟨Cb, 0, none⟩) 1 1, .slice (some ⟨T, 0, none⟩) 4 4] 27)))
  have HMA := hid (HM.out.below (bnew (bnil w1) (.cells #[.slice AW 1 cW, .slice (some ⟨Cb, 0, none⟩) 1 1, .slice (some ⟨T, 0, none⟩) 4 4] 27)))
  have HWA := hid (own_below HW.out (bnew (bnil w1) (.cells #[.slice AW 1 cW, .slice (some ⟨Cb, 0, none⟩) 1 1, .slice (some ⟨T, 0, none⟩) 4 4] 27)))
  generalize World.alloc w1 _ = wA at *
  clear hX HM HW
  refine (schedule_n S p q 4 700 bs wA hpl (by decide) (by decide) (by decide) (HS.out.below BA.out)).mono ?_
  rintro e w2 ⟨v, rfl, ho⟩
  have hl4 : (schedN bs 4 700).length ≤ 700 := by rw [schedN_len]; omega
  have HLT := hid (schedN_lt bs (N := 4) (by decide) 700)
  generalize schedN bs 4 700 = all at *
  obtain ⟨Al, cl, rfl, hcl, hcl2⟩ := ho.form
  have HO := hid ho; clear ho
  rw [show (nats all).length = all.length by simp] at *
  unfold maxLen at hcl2
  obtain ⟨N, hN⟩ : ∃ N, all.length = N := ⟨_, rfl⟩
  rw [hN] at HO hl4 hcl ⊢
  have HN := hid hN; clear hN
  have x0 : w2.cell? ⟨X, 0, none⟩ = some (.slice AW 1 cW) := (HX0.out.below' HO.out.below).cell 0
  have x1 : w2.cell? ⟨X, 1, none⟩ = some (.slice (some ⟨Cb, 0, none⟩) 1 1) := (HX0.out.below' HO.out.below).cell 1
  have x2 : w2.cell? ⟨X, 2, none⟩ = some (.slice (some ⟨T, 0, none⟩) 4 4) := (HX0.out.below' HO.out.below).cell 2
  have HXB := hid (HX0.out.below' HO.out.below)
  have HMB := hid (HMA.out.below HO.out.below)
  have HWB := hid (own_below HWA.out HO.out.below)
  have B2 := hid (bgo BA.out HO.out.below)
  have HT2 := hid (HT.out.below B2.out)
  have HSL := hid (show Sl w2 1 Al N (ints (all.map fun x : Nat => (x : Int))) from HO.out.sl)
  clear HX0 HMA HWA BA HO
  go_wp2_with fail
  refine (ran_of AW (some ⟨Cb, 0, none⟩) (some ⟨T, 0, none⟩) Al 1 cW 1 1 4 4 N cl onceMach all w2 (by decide) (by decide) (by decide) (by omega) hcl HT2.out (once_at HMB.out) (Sl.own HWB.out) HSL.out HLT.out (once_play all).2 (play_fin onceMach all)).mono ?_
  rintro e w3 hp3
  obtain ⟨v3, rs, rfl, hrow, hrs, htold, b3⟩ := hp3
  obtain ⟨A3, c3, rfl, hc3, hc3'⟩ := own_form hrow
  have HR := hid (once_res all)
  rw [← hrs] at HR
  obtain ⟨LD, hLD⟩ : ∃ LD, rs.length = LD := ⟨_, rfl⟩
  rw [hLD] at hrow hc3 ⊢
  have HD := hid (DsAt.mk hLD hrow htold)
  have B3 := hid b3
  clear hrow htold hrs b3 hLD
  have HX3 := hid (HXB.out.below' B3.out)
  have HM3 := hid (HMB.out.below B3.out)
  have HT3 := hid (HT2.out.below B3.out)
  have HSL3 := hid (HSL.out.below B3.out)
  obtain ⟨Ac, cc, hAc⟩ := once_code HM3.out
  have y0 : w3.cell? ⟨X, 0, none⟩ = some (.slice AW 1 cW) := HX3.out.cell 0
  have y1 : w3.cell? ⟨X, 1, none⟩ = some (.slice (some ⟨Cb, 0, none⟩) 1 1) := HX3.out.cell 1
  have y2 : w3.cell? ⟨X, 2, none⟩ = some (.slice (some ⟨T, 0, none⟩) 4 4) := HX3.out.cell 2
  clear x0 x1 x2 HXB HMB HWB HT2 HSL
  go_wp2_with fail
  refine (run_may AW (some ⟨Cb, 0, none⟩) (some ⟨T, 0, none⟩) 1 cW 1 1 4 4 onceMach w3 (by decide) (by decide) (by decide) HT3.out (once_at HM3.out)).mono ?_
  rintro e w4 ⟨rfl, b4⟩
  have B4 := hid b4
  have HD4 := hid (HD.out.below b4)
  have HSL4 := hid (HSL3.out.below b4)
  have B04 := hid (bgo (bgo B2.out B3.out) b4)
  clear b4 y0 y1 y2 hAc HX3 HM3 HT3 HSL3 HD
  unfold maxLen at hc3'
  go_wp2_with fail
  go_loopw [7, 8] (fun o i wr => ∃ (k q : Nat), k ≤ LD ∧ q ≤ 1 ∧ i = .int .i64 k ∧ o = .int .i64 q ∧ Hid (q = 1 → ∃ (j : Nat) (d : Dg), j < k ∧ (rs.map (·.1))[j]? = some d ∧ d.told = [1]) ∧ Hid (Below w4.heap.size w4 wr)) (fun _ i _ => LD - (intOf i).toNat)
  case atStart => exact ⟨0, 0, Nat.zero_le _, Nat.zero_le _, rfl, rfl, hid (fun h => by cases h), hid (bnil _)⟩
  case round =>
    obtain ⟨k, q, hk, hq, rfl, rfl, HQ, BR⟩ := hrel
    by_cases hlt : k < LD
    · have j1 : (k : Int) < (LD : Int) := by omega
      obtain ⟨b9, d, At, ct, rfl, hd, lt9, u0, u1, u2, u3, u4, ut⟩ := (HD4.out.below BR.out).at_ hlt
      have HDk := hid hd
      have HUT := hid ut
      have hsp := HR.out.spent k d hd
      obtain ⟨htb, hte⟩ := HR.out.time k d hd
      rw [HN.out] at htb hte
      have HTE := hid hte
      clear hd ut hte
      obtain ⟨bx, hbx⟩ : ∃ bx, wr.heap.size = bx := ⟨_, rfl⟩
      have XB0 := hid (blkN wr 36 #[.int .i64 (d.b : Int), .int .i64 (eI d.e), .int .i64 (d.t : Int), .int .i64 (d.c : Int), .slice At d.told.length ct] bx hbx)
      have BN0 := hid (bnew (bnil wr) (.cells #[.int .i64 (d.b : Int), .int .i64 (eI d.e), .int .i64 (d.t : Int), .int .i64 (d.c : Int), .slice At d.told.length ct] 36))
      have HBX := hid hbx
      clear hbx
      go_wp2_with fail
      refine (spent_of d ⟨At, d.told.length, ct⟩ Al N cl all _ (by omega) htb HTE.out (HSL4.out.below (bgo BR.out BN0.out))).mono ?_
      rintro e w5 ⟨rfl, b5⟩
      have BN := hid (bgo BN0.out b5)
      have XB := hid (XB0.out.below' b5)
      have HBX' := HBX.out
      rw [HBX'] at lt9 ⊢
      clear XB0 BN0 b5 HBX' u0 u1 u2 u3 u4
      have ltx : bx < w5.heap.size := XB.out.lt
      have BR5 := hid (bgo BR.out BN.out)
      obtain ⟨sp, hsp'⟩ : ∃ sp, spentOf d all = sp := ⟨_, rfl⟩
      rw [hsp'] at hsp ⊢
      clear hsp'
      have g60 : ¬ ((60 : Int) < (sp : Int)) := by omega
      have x1 : w5.cell? ⟨bx, 1, none⟩ = some (.int .i64 (eI d.e)) := XB.out.cell 1
      have x4 : w5.cell? ⟨bx, 4, none⟩ = some (.slice At d.told.length ct) := XB.out.cell 4
      cases he : d.e with
      | none =>
        rw [he] at x1
        have HO := hid (HR.out.open_ k d HDk.out he)
        simp only [eI] at x1
        go_wp2_with fail
        go_roundw
        case rel => exact ⟨k + 1, q, by omega, hq, by go_num, rfl, hid (fun h => by obtain ⟨j, d', a, b, c⟩ := HQ.out h; exact ⟨j, d', by omega, b, c⟩), BR5⟩
        case measure => simp [intOf]; omega
      | some e =>
        rw [he] at x1
        simp only [eI] at x1
        have hv : ∃ v : Int, d.told = [v] ∧ ((v = 1 ∧ q = 0) ∨ v = 0) := by
          rcases HR.out.told k d e HDk.out he with h | h
          · refine ⟨1, h, .inl ⟨rfl, ?_⟩⟩
            rcases Nat.lt_or_ge q 1 with h2 | h2
            · omega
            · obtain ⟨j, d', a, b, c⟩ := HQ.out (by omega)
              have := HR.out.one j k d' d b HDk.out c h
              omega
          · exact ⟨0, h, .inr rfl⟩
        obtain ⟨v, htd, hv⟩ := hv
        obtain ⟨bt, rfl, hbt, t0⟩ := told_one HUT.out htd
        have t0 : w5.cell? ⟨bt, 0, none⟩ = some (.int .i64 v) := cell_below BN.out t0
        rw [htd] at x4
        have x4 : w5.cell? ⟨bx, 4, none⟩ = some (.slice (some ⟨bt, 0, none⟩) 1 ct) := x4
        have HTD := hid htd; have HE := hid he
        clear htd he HUT
        have en : ¬ ((e : Int) = -1) := by omega
        obtain ⟨v1, hv1⟩ : ∃ v1 : Int, v = v1 := ⟨v, rfl⟩
        have HV := hid (show (v1 = 1 → q = 0) from fun h => by rcases hv with ⟨_, h2⟩ | h2 <;> omega)
        have hvv : v = 1 ∨ v = 0 := by rcases hv with ⟨h, _⟩ | h; exact .inl h; exact .inr h
        clear hv
        rcases hvv with rfl | rfl
        all_goals
          subst hv1
          go_wp2_with fail
          go_loopw [10, 11] (fun a kk wz => ∃ (j : Nat) (ab : Bool), j ≤ LD ∧ kk = .int .i64 j ∧ a = .bool ab ∧ Hid (OnceIn (rs.map (·.1)) d k e j ab) ∧ Hid (Below w5.heap.size w5 wz)) (fun _ kk _ => LD - (intOf kk).toNat)
          case atStart => exact ⟨0, _, Nat.zero_le _, rfl, rfl, hid ⟨fun h => by first | rfl | (rw [HTD.out] at h; revert h; decide), fun j' d' h => absurd h (by omega)⟩, hid (bnil _)⟩
          case round =>
            obtain ⟨j, ab, hj, rfl, rfl, HA, BZ⟩ := hrel
            by_cases hlt2 : j < LD
            · have j2 : (j : Int) < (LD : Int) := by omega
              obtain ⟨b10, d2, At2, ct2, hb10, hd2, lt10, z0, z1, z2, z3, z4, zt⟩ := (HD4.out.below (bgo BR5.out BZ.out)).at_ hlt2
              injection hb10 with hb10; injection hb10 with hb10 _ _
              subst hb10
              have HD2 := hid hd2
              have HZT := hid zt
              clear hd2 zt
              obtain ⟨E2, hE2⟩ : ∃ E2, eI d2.e = E2 := ⟨_, rfl⟩
              obtain ⟨n2, hn2⟩ : ∃ n2, d2.told.length = n2 := ⟨_, rfl⟩
              rw [hE2] at z1
              rw [hn2] at z4
              have HE2 := hid hE2; have HN2 := hid hn2
              clear hE2 hn2
              have ltx2 : bx < wr.heap.size := by have := BZ.out.size; omega
              have x1' : wr.cell? ⟨bx, 1, none⟩ = some (.int .i64 (e : Int)) := cell_below BZ.out x1
              have BZ2 := hid (bgo BZ.out (bnew (bnil wr) (.cells #[.int .i64 (d2.b : Int), .int .i64 E2, .int .i64 (d2.t : Int), .int .i64 (d2.c : Int), .slice At2 n2 ct2] 36)))
              cases ab with
              | true =>
                have HN := hid (HA.out.next HD2.out true (fun h => h) (fun _ _ _ => rfl))
                go_wp2_with fail
                go_roundw
                case rel => first | exact ⟨j + 1, true, by omega, by go_num, rfl, HN, BZ2⟩ | exact ⟨j + 1, by omega, by go_num, HN⟩
                case measure => simp [intOf]; omega
              | false =>
                by_cases hjk : j = k
                · have HN := hid (HA.out.next HD2.out false (fun h => h) (fun h => absurd hjk h))
                  subst hjk
                  have e1 : ((j : Int) == (j : Int)) = true := by simp
                  go_wp2_with fail
                  go_roundw
                  case rel => first | exact ⟨j + 1, false, by omega, by go_num, rfl, HN, BZ2⟩ | exact ⟨j + 1, by omega, by go_num, HN⟩
                  case measure => simp [intOf]; omega
                · have e1 : ¬ (j : Int) = (k : Int) := by omega
                  by_cases hbe : d2.b < e
                  · have e2 : (d2.b : Int) < (e : Int) := by omega
                    cases he2 : d2.e with
                    | none =>
                      have HN := hid (HA.out.next HD2.out true (fun h => rfl) (fun _ _ _ => rfl))
                      have hE : E2 = -1 := by rw [← HE2.out, he2]; rfl
                      subst hE
                      clear he2
                      go_wp2_with fail
                      go_roundw
                      case rel => first | exact ⟨j + 1, true, by omega, by go_num, rfl, HN, BZ2⟩ | exact ⟨j + 1, by omega, by go_num, HN⟩
                      case measure => simp [intOf]; omega
                    | some e3 =>
                      have hE : E2 = (e3 : Int) := by rw [← HE2.out, he2]; rfl
                      have en2 : ¬ ((e3 : Int) = -1) := by omega
                      subst hE
                      obtain ⟨v2, hv2, hN2⟩ : ∃ v2 : Bool, d2.told = [if v2 then 1 else 0] ∧ OnceIn (rs.map (·.1)) d k e (j + 1) v2 := by
                        rcases HR.out.told j d2 e3 HD2.out he2 with htd2 | htd2
                        · exact ⟨true, htd2, HA.out.next HD2.out true (fun h => rfl) (fun _ _ _ => rfl)⟩
                        · exact ⟨false, htd2, HA.out.next HD2.out false (fun h => h) (fun _ _ h => by rw [he2, htd2] at h; rcases h with h | h <;> cases h)⟩
                      have hn1 : n2 = 1 := by rw [← HN2.out, hv2]; rfl
                      obtain ⟨bt2, rfl, hbt2, t2⟩ := told_one HZT.out hv2
                      subst hn1
                      have ltt2 := World.block_lt_of_cell? wr _ t2
                      have HN := hid hN2
                      clear he2 hv2 hN2
                      cases v2
                      all_goals
                        simp only [if_true, if_false, Bool.false_eq_true] at t2
                        go_wp2_with fail
                        go_roundw
                        case rel => first | exact ⟨j + 1, _, by omega, by go_num, rfl, HN, BZ2⟩ | exact ⟨j + 1, by omega, by go_num, HN⟩
                        case measure => simp [intOf]; omega
                  · have e2 : ¬ (d2.b : Int) < (e : Int) := by omega
                    have HN := hid (HA.out.next HD2.out false (fun h => h) (fun _ h => absurd h hbe))
                    go_wp2_with fail
                    go_roundw
                    case rel => first | exact ⟨j + 1, false, by omega, by go_num, rfl, HN, BZ2⟩ | exact ⟨j + 1, by omega, by go_num, HN⟩
                    case measure => simp [intOf]; omega
            · obtain rfl : j = LD := by omega
              have j2 : ¬ (j : Int) < (j : Int) := by omega
              have hab : ab = true := by
                rcases HR.out.told k d e HDk.out HE.out with h | h
                · exact HA.out.own h
                · obtain ⟨k', d', a1, a2, a3, a4⟩ := HR.out.another k d e HDk.out HE.out h
                  have hl := (List.getElem?_eq_some_iff.1 a1).1
                  rw [List.length_map, HD4.out.len] at hl
                  exact HA.out.oth k' d' hl a1 a2 a3 a4
              subst hab
              have HB6 := hid (bgo BR5.out BZ.out)
              obtain ⟨q1, hq1, HQ1, hsum⟩ : ∃ q1 : Nat, q1 ≤ 1 ∧ Hid (q1 = 1 → ∃ (j' : Nat) (d : Dg), j' < k + 1 ∧ (rs.map (·.1))[j']? = some d ∧ d.told = [1]) ∧ ((q1 : Int) = (q : Int) + 1 ∧ d.told = [1] ∨ q1 = q ∧ d.told = [0]) := by
                rcases HR.out.told k d e HDk.out HE.out with h | h
                · have hq0 : q = 0 := by
                    have hv2 := HV.out
                    rw [HTD.out] at h
                    first | exact hv2 trivial | exact hv2 rfl | exact absurd h (by decide)
                  exact ⟨1, by omega, hid (fun _ => ⟨k, d, by omega, HDk.out, h⟩), .inl ⟨by omega, h⟩⟩
                · exact ⟨q, hq, hid (fun h2 => by obtain ⟨j', d', a, b, c⟩ := HQ.out h2; exact ⟨j', d', by omega, b, c⟩), .inr ⟨rfl, h⟩⟩
              rw [HTD.out] at hsum
              have hsum2 : (q1 : Int) = (q : Int) + 1 ∨ q1 = q := by rcases hsum with ⟨h, _⟩ | ⟨h, _⟩; exact .inl h; exact .inr h
              first
                | (have hsum := (hsum.resolve_right (fun h => absurd h.2 (by decide))).1; have HS1 := hid hsum; clear hsum hsum2)
                | (have hsum := (hsum.resolve_left (fun h => absurd h.2 (by decide))).1; have HS1 := hid hsum; clear hsum hsum2)
              go_wp2_with fail
              go_roundw
              case rel => exact ⟨k + 1, q1, by omega, hq1, by go_num, by first | (rw [HS1.out]; go_num) | (rw [HS1.out]) | go_num, HQ1, HB6⟩
              case measure => simp [intOf]; omega
    · obtain rfl : k = LD := by omega
      have j1 : ¬ (k : Int) < (k : Int) := by omega
      have g1 : (q : Int) ≤ 1 := by omega
      go_wp2_with fail
      go_ret
      exact ⟨rfl, bgo B04.out BR.out⟩
end Go.Proofs.YtnoinojhocicjaaDoor
