/-
  SemaFull: its walk. Written by gen_semaf.py.
-/
import Derived.Test.YtnoinojhocicjaaDoorSemaMach
import Derived.Test.YtnoinojhocicjaaDoorSemaFul0
import Derived.Test.YtnoinojhocicjaaDoorSemaEnds
namespace Go.Proofs.YtnoinojhocicjaaDoor
open Go.RowKit
set_option linter.unusedVariables false

theorem own_take {w : World} {base e sz n c n' : Nat} {A : Option Addr} {xs : List Value} (h : w.ownsRow base e sz (.slice A n c) n xs) (h0 : 0 < n') (hn : n' ≤ n) : w.ownsRow base e sz (.slice A n' c) n' (xs.take (n' * sz)) := by
  obtain ⟨hl, h⟩ := h
  refine ⟨?_, ?_⟩
  · rw [List.length_take, hl]
    exact Nat.min_eq_left (Nat.mul_le_mul_right sz hn)
  · rcases h with ⟨h1, h2⟩ | ⟨g, cap, cur, hv, hg, hb, hc1, hc2, hc3, hc4⟩
    · omega
    · injection hv with e1 e2 e3
      subst e1 e3
      refine .inr ⟨g, c, cur, rfl, hg, hb, by omega, hc2, hc3, ?_⟩
      rw [← hc4, List.take_take, Nat.min_eq_left (Nat.mul_le_mul_right sz hn)]
theorem thF_next (R t : Nat) : upd (thF R t) t [⟨0, []⟩] = thF R (t + 1) := by
  funext j
  unfold upd thF
  by_cases h : j = t
  · rw [if_pos h, if_pos (by omega)]
  · rw [if_neg h]
    by_cases h2 : j < t
    · rw [if_pos h2, if_pos (by omega)]
    · rw [if_neg h2, if_neg (by omega)]
theorem thF_at {R t j : Nat} (ht : t ≤ j) (hj : j < 4) : thF R t j = [⟨0, []⟩, ⟨1, []⟩] := by
  unfold thF rths
  rw [if_neg (by omega), if_pos hj]
  rfl
theorem thF_zero (R : Nat) : thF R 0 = rths 1 0 4 0 := by
  funext j; unfold thF; rw [if_neg (by omega)]
theorem thF_le (R t j : Nat) : (thF R t j).length ≤ 20 ∧ ∀ c ∈ thF R t j, c.code < 3 ∧ c.args.length ≤ 8 := by
  unfold thF
  split
  · exact ⟨by decide, fun c hc => by rw [List.mem_singleton.1 hc]; decide⟩
  · unfold rths
    split
    · exact ⟨by have := rcalls_len 0 1; omega, rcalls_mem 0 1⟩
    · split
      · exact ⟨by simp [rcalls], fun c hc => by simp [rcalls] at hc⟩
      · exact ⟨by simp, fun c hc => by cases hc⟩
theorem sf_at {B : Nat} {w : World} {Cb T : Nat} {cv tv : Nat → Value} {av : Nat → List SV} {R : Nat} (h : MN B w 3 4 Cb T cv (fun i => [enterCode, leaveCode, lops 0 0].getD i []) tv (thF R R) av) : MachAt w (some ⟨Cb, 0, none⟩) 3 (some ⟨T, 0, none⟩) 4 (sfM R) := by
  refine h.at_ rfl rfl (fun i hi => ?_) (fun j hj => thF_le R R j)
  rcases (show i = 0 ∨ i = 1 ∨ i = 2 by omega) with rfl | rfl | rfl
  · exact ⟨by decide, enter_sh⟩
  · exact ⟨by decide, leave_sh⟩
  · exact ⟨by decide, lops_sh 0⟩
theorem endedA_take {ds : List Dg} {k : Nat} {d : Dg} (h : ds[k]? = some d) : endedA (ds.take (k + 1)) = endedA (ds.take k) + (if d.e.isSome = true then 1 else 0) := by
  unfold endedA
  rw [List.take_add_one, h, List.filter_append, List.length_append]
  cases hp : d.e.isSome <;> simp [hp]
theorem sf_len : ∀ t, (partsS (fun d => d) (fun _ => 100) t).length = 100 * t
  | 0 => rfl
  | t + 1 => by rw [partsS, List.length_append, List.length_replicate, sf_len t]; omega
theorem parts_mem4 (R : Nat) (hR : R ≤ 3) (i : Nat) : ∀ x ∈ sfS R ++ List.replicate i 3, x < 4 := by
  intro x hx
  rcases List.mem_append.1 hx with hx | hx
  · unfold sfS at hx
    have key : ∀ t, ∀ x ∈ partsS (fun d => d) (fun _ => 100) t, x < t := by
      intro t
      induction t with
      | zero => intro x hx; cases hx
      | succ t ih =>
        intro x hx
        rcases List.mem_append.1 hx with hx | hx
        · have := ih x hx; omega
        · have e : x = t := (List.mem_replicate.1 hx).2
          omega
    have := key R x hx
    omega
  · rw [(List.mem_replicate.1 hx).2]; decide
set_option maxHeartbeats 8000000 in
set_option maxRecDepth 100000 in
theorem law_semaFull (xr xw : Int) (w : World) (ha : -9223372036854775808 ≤ xr) (ha1 : xr ≤ 9223372036854775807) (hb : -9223372036854775808 ≤ xw) (hb1 : xw ≤ 9223372036854775807) (hT : STab w) :
    Calls Tryd.prog 16 #[.int .i64 xr, .int .i64 xw] w fun e w' => e = .returned (.bool true) ∧ Below w.heap.size w w' := by
  have HT := hid hT
  clear hT
  have m1 := pk_lt xr 3 (by decide)
  obtain ⟨R, hR⟩ : ∃ R : Nat, wrap64 (1 + (pk xr 3 : Int)) = (R : Int) ∧ R = 1 + pk xr 3 := ⟨1 + pk xr 3, by rw [wrap_sm (by omega) (by omega)]; omega, rfl⟩
  have hR1 : 1 ≤ R := by omega
  have hR3 : R ≤ 3 := by omega
  have HR := hid hR.1
  clear hR m1
  obtain ⟨wt, hwt⟩ : ∃ wt, pk xw 2000 = wt := ⟨_, rfl⟩
  have HWT := hid hwt
  have hwt2 : wt < 2000 := by have := pk_lt xw 2000 (by decide); omega
  clear hwt
  go_enter Tryd.func16, Tryd.ntmps16
  go_wp2_with fail
  refine (picked xr 3 w (by decide) ha ha1 (by decide)).mono ?_
  rintro e w' ⟨rfl, rfl⟩
  go_wp2_with fail
  rw [HR.out]
  refine (sema_machine R 1 0 w hR1 (by omega) (by decide) (by decide) HT.out).mono ?_
  rintro e w1 hp1
  obtain ⟨AW, cW, Cb, T, cv, tv, av, rfl, hW, hM, b1⟩ := hp1
  have HM := hid hM; have B1 := hid b1; have HW := hid hW
  clear hM b1 hW
  obtain ⟨X, hX⟩ : ∃ X, w1.heap.size = X := ⟨_, rfl⟩
  go_upto_region 3 with fail
  have HX0 := hid (blkN w1 27 #[.slice AW 1 cW, .slice (some ⟨Cb, 0, none⟩) 3 3, .slice (some ⟨T, 0, none⟩) 4 4] X hX)
  have BA := hid (bgo B1.out (bnew (bnil w1) (.cells #[.slice AW 1 cW, .slice (some ⟨Cb, 0, none⟩) 3 3, .slice (some ⟨T, 0, none⟩) 4 4] 27)))
  have HMA := hid (HM.out.below (bnew (bnil w1) (.cells #[.slice AW 1 cW, .slice (some ⟨Cb, 0, none⟩) 3 3, .slice (some ⟨T, 0, none⟩) 4 4] 27)))
  have HWA := hid (own_below HW.out (bnew (bnil w1) (.cells #[.slice AW 1 cW, .slice (some ⟨Cb, 0, none⟩) 3 3, .slice (some ⟨T, 0, none⟩) 4 4] 27)))
  generalize World.alloc w1 _ = wA at *
  clear hX HM HW
  go_wp2_with fail
  go_loopw [8] (fun o wr => ∃ (t : Nat) (tv : Nat → Value) (av : Nat → List SV), t ≤ R ∧ o = .int .i64 t ∧ Hid (MN w.heap.size wr 3 4 Cb T cv (fun i => [enterCode, leaveCode, lops 0 0].getD i []) tv (thF R t) av) ∧ Hid (Blk wr X 27 #[.slice AW 1 cW, .slice (some ⟨Cb, 0, none⟩) 3 3, .slice (some ⟨T, 0, none⟩) 4 4]) ∧ Hid (wr.ownsRow w.heap.size 3 1 (.slice AW 1 cW) 1 ([(R : Int)].flatMap gI)) ∧ Hid (Below w.heap.size w wr)) (fun o _ => R - (intOf o).toNat)
  case atStart => exact ⟨0, tv, av, Nat.zero_le _, rfl, (by rw [thF_zero]; exact HMA), HX0, HWA, BA⟩
  case round =>
    clear HMA HX0 HWA BA
    clear tv av
    obtain ⟨t, tv, av, ht, rfl, HM, HX, HW, BR⟩ := hrel
    by_cases hlt : t < R
    · have j1 : (t : Int) < (R : Int) := by omega
      have ht4 : t < 4 := by omega
      have y2 : wr.cell? ⟨X, 2, none⟩ = some (.slice (some ⟨T, 0, none⟩) 4 4) := HX.out.cell 2
      have hrow := HM.out.rows t ht4
      obtain ⟨At, ct, hAt, hct1, hct2⟩ := own_form hrow.2.1
      have e2 : (thF R t t).length = 2 := by rw [thF_at (Nat.le_refl _) ht4]; rfl
      rw [e2] at hAt hct1
      have y3 : wr.cell? ⟨T, t, none⟩ = some (.slice At 2 ct) := by rw [HM.out.tb.cell t, arrN_at tv ht4, hAt]
      have y4 := HM.out.tb.frozen t
      have i1 : (1 : Nat) ≤ ct := by omega
      have hcr : CRow w.heap.size wr (.slice At 1 ct) [⟨0, []⟩] ((av t).take 1) := by
        obtain ⟨r1, r2, r3⟩ := hrow
        rw [thF_at (Nat.le_refl _) ht4] at r1 r2 r3
        match hav : av t, r1 with
        | [a, b], _ =>
          rw [hav] at r2 r3
          refine ⟨rfl, ?_, fun k c v hk hv => ?_⟩
          · rw [hAt] at r2
            have := own_take (n' := 1) r2 (by decide) (by decide)
            exact this
          · match k, hk, hv with
            | 0, hk, hv => exact r3 0 c v hk hv
            | k + 1, hk, hv => simp at hk
      have hput := HM.out.put ht4 (World.grownBy.refl wr _) (.inl (by rw [hAt]; cases At <;> rfl)) hcr
      rw [thF_next] at hput
      have HPUT := hid hput
      have HX' := hid (HX.out.far (p := ⟨T, t, none⟩) (HX.out.ne_ HM.out.tb (by decide)) (.slice At 1 ct))
      have HW' := hid (HM.out.other ht4 (bnil wr) (World.grownBy.refl wr _) HW.out (by decide) (by decide) (.slice At 1 ct))
      have BR' := hid (BR.out.setCell (p := ⟨T, t, none⟩) HM.out.geT (.slice At 1 ct))
      clear hrow hAt hcr hput e2
      go_wp2_with fail
      go_region
      all_goals
        go_wp2_with fail
        go_roundw
        case rel => exact ⟨t + 1, _, _, by omega, by go_num, HPUT.out.below (bnil _).drew, HX'.out.below' (bnil _).drew, own_below HW'.out (bnil _).drew, BR'.out.drew⟩
        case measure => simp [intOf]; omega
    · obtain rfl : t = R := by omega
      have j1 : ¬ (t : Int) < (t : Int) := by omega
      have HMA := hid (sf_at HM.out)
      have HWS := hid (show Sl wr 1 AW 1 (ints [(t : Int)]) from Sl.own HW.out)
      clear HM HW tv av
      obtain ⟨wB, hwB⟩ : ∃ wB, wB = wr := ⟨_, rfl⟩
      subst hwB
      obtain ⟨R, hRR⟩ : ∃ R, R = t := ⟨_, rfl⟩
      subst hRR
      have HSN := hid (fun k => sema_full hR1 hR3 k)
      go_wp2_with fail
      go_loopw [9, 10] (fun v o wr => ∃ (t N : Nat) (As : Option Addr) (cs : Nat), t ≤ R ∧ o = .int .i64 t ∧ v = .slice As N cs ∧ Hid (N = 100 * t) ∧ N ≤ cs ∧ Hid (Ow wB wr 3 1 gI (.slice As N cs) (nats (partsS (fun d => d) (fun _ => 100) t)))) (fun _ o _ => R - (intOf o).toNat)
      case atStart => exact ⟨0, 0, none, 0, Nat.zero_le _, rfl, rfl, hid rfl, Nat.le_refl _, hid (Ow.nil _ _ _ _)⟩
      case round =>
        obtain ⟨t, N, As, cs, ht, rfl, rfl, hN, hcs, HO⟩ := hrel
        by_cases hlt : t < R
        · have j1 : (t : Int) < (R : Int) := by omega
          go_wp2_with fail
          go_loopw [9, 11] (fun v o wx => ∃ (i N : Nat) (As : Option Addr) (cs : Nat), i ≤ 100 ∧ o = .int .i64 i ∧ v = .slice As N cs ∧ Hid (N = 100 * t + i) ∧ N ≤ cs ∧ Hid (Ow wB wx 3 1 gI (.slice As N cs) (nats (partsS (fun d => d) (fun _ => 100) t ++ List.replicate i t)))) (fun _ o _ => 100 - (intOf o).toNat)
          case atStart => exact ⟨0, N, As, cs, Nat.zero_le _, rfl, rfl, hN, hcs, (by rw [List.replicate_zero, List.append_nil]; exact HO)⟩
          case round =>
            clear HO hN hcs
            obtain ⟨i, N, As, cs, hi, rfl, rfl, HNE, hcs, HO⟩ := hrel
            by_cases hi2 : i < 100
            · have j2 : (i : Int) < 100 := by omega
              obtain ⟨y, hy⟩ : ∃ y, nats (partsS (fun d => d) (fun _ => 100) t ++ List.replicate i t) ++ [(t : Int)] = y := ⟨_, rfl⟩
              have HYE := hid (show y = nats (partsS (fun d => d) (fun _ => 100) t ++ List.replicate (i + 1) t) by rw [← hy]; unfold nats; rw [List.replicate_succ', ← List.append_assoc, List.map_append (l₁ := partsS (fun d => d) (fun _ => 100) t ++ List.replicate i t)]; rfl)
              have HY := hid hy
              have HYN := hid (show y.length = N + 1 by rw [← hy, List.length_append, List.length_map]; rw [List.length_append, List.length_replicate, sf_len, HNE.out]; rfl)
              have hNb : N ≤ 6000 := by have := HNE.out; omega
              clear hy
              go_wp2_with (at_builtin; refine wpList_appY elmI gI_one rfl (.tmp 51) (.tmp 53) rfl (.slice As N cs) _ rfl (HO.out.alloc _) [(t : Int)] y HY rfl (Sl.fresh wr #[_] 3 1 1 rfl) (by go_num) (by rw [HYN.out]; simp only [maxLen]; omega) (by rw [HYN.out]; omega) ?_; intro A4 c4 w4 hc4 hc5 HN4 HG4 HB4)
              go_roundw
              case rel => exact ⟨i + 1, N + 1, A4, c4, by omega, by go_num, by rw [HYN.out], hid (by have := HNE.out; omega), by rw [HYN.out] at hc4; exact hc4, hid (by have h1 := HN4.out; rw [HYN.out] at h1; rw [← HYE.out]; exact h1)⟩
              case measure => simp [intOf]; omega
            · obtain rfl : i = 100 := by omega
              have j2 : ¬ (((100 : Nat) : Int) < 100) := by omega
              go_wp2_with fail
              go_roundw
              case rel => exact ⟨t + 1, N, As, cs, by omega, by go_num, rfl, hid (by have := HNE.out; omega), hcs, HO⟩
              case measure => simp [intOf]; omega
        · obtain rfl : t = R := by omega
          have j1 : ¬ (t : Int) < (t : Int) := by omega
          obtain ⟨R, hRR⟩ : ∃ R, R = t := ⟨_, rfl⟩
          subst hRR
          go_wp2_with fail
          go_loopw [9, 12] (fun v o wx => ∃ (i N : Nat) (As : Option Addr) (cs : Nat), i ≤ wt ∧ o = .int .i64 i ∧ v = .slice As N cs ∧ Hid (N = 100 * R + i) ∧ N ≤ cs ∧ Hid (Ow wB wx 3 1 gI (.slice As N cs) (nats (sfS R ++ List.replicate i 3)))) (fun _ o _ => wt - (intOf o).toNat)
          case atStart => exact ⟨0, N, As, cs, Nat.zero_le _, rfl, rfl, hN, hcs, (by rw [List.replicate_zero, List.append_nil]; exact HO)⟩
          case round =>
            clear HO hN hcs
            obtain ⟨i, N, As, cs, hi, rfl, rfl, HNE, hcs, HO⟩ := hrel
            have hNb : N ≤ 6000 := by have := HNE.out; omega
            go_wp2_with fail
            refine (picked xw 2000 wr (by decide) hb hb1 (by decide)).mono ?_
            rintro e w' ⟨rfl, rfl⟩
            rw [HWT.out]
            by_cases hi2 : i < wt
            · have j2 : (i : Int) < (wt : Int) := by omega
              obtain ⟨y, hy⟩ : ∃ y, nats (sfS R ++ List.replicate i 3) ++ [((3 : Nat) : Int)] = y := ⟨_, rfl⟩
              have HYE := hid (show y = nats (sfS R ++ List.replicate (i + 1) 3) by rw [← hy]; unfold nats; rw [List.replicate_succ', ← List.append_assoc, List.map_append (l₁ := sfS R ++ List.replicate i 3)]; rfl)
              have HY := hid hy
              have HYN := hid (show y.length = N + 1 by rw [← hy, List.length_append, List.length_map]; rw [List.length_append, List.length_replicate, show (sfS R).length = 100 * R from sf_len R, HNE.out]; rfl)
              clear hy
              go_wp2_with (at_builtin; refine wpList_appY elmI gI_one rfl (.tmp 61) (.tmp 62) rfl (.slice As N cs) _ rfl (HO.out.alloc _) [((3 : Nat) : Int)] y HY rfl (Sl.fresh wr #[_] 3 1 1 rfl) (by go_num) (by rw [HYN.out]; simp only [maxLen]; omega) (by rw [HYN.out]; omega) ?_; intro A4 c4 w4 hc4 hc5 HN4 HG4 HB4)
              go_roundw
              case rel => exact ⟨i + 1, N + 1, A4, c4, by omega, by go_num, by rw [HYN.out], hid (by have := HNE.out; omega), by rw [HYN.out] at hc4; exact hc4, hid (by have h1 := HN4.out; rw [HYN.out] at h1; rw [← HYE.out]; exact h1)⟩
              case measure => simp [intOf]; omega
            · obtain rfl : i = wt := by omega
              have j2 : ¬ (i : Int) < (i : Int) := by omega
              have HX1 := hid (HX.out.below' HO.out.below)
              have y0 : wr.cell? ⟨X, 0, none⟩ = some (.slice AW 1 cW) := HX1.out.cell 0
              have y1 : wr.cell? ⟨X, 1, none⟩ = some (.slice (some ⟨Cb, 0, none⟩) 3 3) := HX1.out.cell 1
              have y2 : wr.cell? ⟨X, 2, none⟩ = some (.slice (some ⟨T, 0, none⟩) 4 4) := HX1.out.cell 2
              have HTR := hid (HT.out.below (bgo BR.out HO.out.below))
              have HMR := hid (HMA.out.below HO.out.below)
              have HWR := hid (HWS.out.below HO.out.below)
              have HSR := hid (show Sl wr 1 As N (ints ((sfS R ++ List.replicate i 3 : List Nat).map fun x : Nat => (x : Int))) from HO.out.sl)
              have HLT := hid (parts_mem4 R hR3 i)
              have HNER := hid (HSN.out i).1
              have HEA := hid (HSN.out i).2
              go_wp2_with fail
              refine (ran_of AW (some ⟨Cb, 0, none⟩) (some ⟨T, 0, none⟩) As 1 cW 3 3 4 4 N cs (sfM R) (sfS R ++ List.replicate i 3) wr (by decide) (by decide) (by decide) hNb hcs HTR.out HMR.out HWR.out HSR.out HLT.out HNER.out (play_fin _ _)).mono ?_
              rintro e w5 hp3
              obtain ⟨v3, rs, rfl, hrow, hrs, htold, b3⟩ := hp3
              obtain ⟨A3, c3, rfl, hc3, hc3'⟩ := own_form hrow
              obtain ⟨LD, hLD⟩ : ∃ LD, rs.length = LD := ⟨_, rfl⟩
              rw [hLD] at hrow hc3 ⊢
              have HD := hid (DsAt.mk hLD hrow htold)
              rw [← hrs] at HEA
              have B5 := hid (bgo (bgo BR.out HO.out.below) b3)
              clear hrow htold hrs b3 hLD y0 y1 y2 HX1 HTR HMR HWR HSR HLT HNER HO HSN
              unfold maxLen at hc3'
              go_wp2_with fail
              go_loopw [15, 16] (fun o kk wz => ∃ (k z : Nat), k ≤ LD ∧ z ≤ k ∧ kk = .int .i64 k ∧ o = .int .i64 z ∧ Hid (z = endedA ((rs.map (·.1)).take k)) ∧ Hid (Below w5.heap.size w5 wz)) (fun _ kk _ => LD - (intOf kk).toNat)
              case atStart => exact ⟨0, 0, Nat.zero_le _, Nat.le_refl _, rfl, rfl, hid rfl, hid (bnil _)⟩
              case round =>
                obtain ⟨k, z, hk, hz, rfl, rfl, HZ, BZ⟩ := hrel
                by_cases hlt2 : k < LD
                · have j2 : (k : Int) < (LD : Int) := by omega
                  obtain ⟨b9, d2, At, ct, rfl, hd2, lt9, u0, u1, u2, u3, u4, ut⟩ := (HD.out.below BZ.out).at_ hlt2
                  have HE := hid (endedA_take hd2)
                  clear hd2 ut
                  cases he : d2.e with
                  | none =>
                    have e1 : eI d2.e = -1 := by rw [he]; rfl
                    rw [e1] at u1
                    have HZ1 := hid (show z = endedA ((rs.map (·.1)).take (k + 1)) by rw [HE.out, he, HZ.out]; simp)
                    clear e1 he
                    go_wp2_with fail
                    go_roundw
                    case rel => first | exact ⟨k + 1, z, by omega, by omega, by go_num, by go_num, HZ1, BZ⟩ | exact ⟨k + 1, by omega, z, by omega, by go_num, by go_num, HZ1⟩ | exact ⟨k + 1, by omega, by omega, by go_num, HZ1, BZ⟩ | exact ⟨k + 1, by omega, by omega, by go_num, HZ1⟩
                    case measure => simp [intOf]; omega
                  | some e2 =>
                    have e1 : eI d2.e = (e2 : Int) := by rw [he]; rfl
                    rw [e1] at u1
                    have HZ1 := hid (show z + 1 = endedA ((rs.map (·.1)).take (k + 1)) by rw [HE.out, he, HZ.out]; simp)
                    have en : ¬ ((e2 : Int) = -1) := by omega
                    clear e1 he
                    go_wp2_with fail
                    go_roundw
                    case rel => first | exact ⟨k + 1, z + 1, by omega, by omega, by go_num, by go_num, HZ1, BZ⟩ | exact ⟨k + 1, by omega, z + 1, by omega, by go_num, by go_num, HZ1⟩ | exact ⟨k + 1, by omega, by omega, by go_num, HZ1, BZ⟩ | exact ⟨k + 1, by omega, by omega, by go_num, HZ1⟩
                    case measure => simp [intOf]; omega
                · obtain rfl : k = LD := by omega
                  have j2 : ¬ (k : Int) < (k : Int) := by omega
                  have hz2 : z = R := by rw [HZ.out, List.take_of_length_le (by rw [List.length_map, HD.out.len]; exact Nat.le_refl _), HEA.out]
                  subst hz2
                  go_wp2_with fail
                  go_ret
                  exact ⟨by first | rfl | simp, bgo B5.out BZ.out⟩
end Go.Proofs.YtnoinojhocicjaaDoor
