/-
  SemaEnds: its walk. Written by gen_semae.py.
-/
import Derived.Test.YtnoinojhocicjaaDoorSemaMach
import Derived.Test.YtnoinojhocicjaaDoorSemaEnd
import Derived.Test.YtnoinojhocicjaaDoorSched
namespace Go.Proofs.YtnoinojhocicjaaDoor
open Go.RowKit
set_option linter.unusedVariables false

theorem parts_mem {tD cD : Nat → Nat} {N : Nat} (h : ∀ d, tD d < N) : ∀ (d i t : Nat), t < N → ∀ x ∈ partsS tD cD d ++ List.replicate i t, x < N := by
  intro d i t ht x hx
  rcases List.mem_append.1 hx with hx | hx
  · induction d with
    | zero => cases hx
    | succ d ih =>
      rcases List.mem_append.1 hx with hx | hx
      · exact ih (List.mem_append.2 (.inl hx)) hx
      · rw [(List.mem_replicate.1 hx).2]; exact h d
  · rw [(List.mem_replicate.1 hx).2]; exact ht
theorem parts_len {tD cD : Nat → Nat} {c : Nat} (h : ∀ d, cD d ≤ c) : ∀ d, (partsS tD cD d).length ≤ d * c
  | 0 => by simp [partsS]
  | d + 1 => by
    rw [partsS, List.length_append, List.length_replicate, Nat.succ_mul]
    have := parts_len (tD := tD) h d
    have := h d
    omega
theorem ended_take {ds : List Dg} {k : Nat} {d : Dg} (t : Nat) (h : ds[k]? = some d) : endedN (ds.take (k + 1)) t = endedN (ds.take k) t + (if (d.t == t && d.e.isSome) = true then 1 else 0) := by
  unfold endedN
  rw [List.take_add_one, h, List.filter_append, List.length_append]
  cases hp : (d.t == t && d.e.isSome) <;> simp [hp]
theorem ended_le (ds : List Dg) (t k : Nat) : endedN (ds.take k) t ≤ k := by
  unfold endedN
  have h1 := List.length_filter_le (fun d : Dg => d.t == t && d.e.isSome) (ds.take k)
  rw [List.length_take] at h1
  omega
set_option maxHeartbeats 8000000 in
set_option maxRecDepth 100000 in
theorem law_semaEnds (xr : Int) (w : World) (ha : -9223372036854775808 ≤ xr) (ha1 : xr ≤ 9223372036854775807) (hT : STab w) :
    Calls Tryd.prog 15 #[.int .i64 xr] w fun e w' => e = .returned (.bool true) ∧ Below w.heap.size w w' := by
  have HT := hid hT
  clear hT
  have m1 := pk_lt xr 4 (by decide)
  obtain ⟨R, hR⟩ : ∃ R : Nat, wrap64 (1 + (pk xr 4 : Int)) = (R : Int) ∧ R = 1 + pk xr 4 := ⟨1 + pk xr 4, by rw [wrap_sm (by omega) (by omega)]; omega, rfl⟩
  have hR1 : 1 ≤ R := by omega
  have hR4 : R ≤ 4 := by omega
  have HR := hid hR.1
  clear hR m1
  go_enter Tryd.func15, Tryd.ntmps15
  go_wp2_with fail
  refine (picked xr 4 w (by decide) ha ha1 (by decide)).mono ?_
  rintro e w' ⟨rfl, rfl⟩
  go_wp2_with fail
  rw [HR.out]
  refine (sema_machine R 2 0 w hR1 hR4 (by decide) (by decide) HT.out).mono ?_
  rintro e w1 hp1
  obtain ⟨AW, cW, Cb, T, cv, tv, av, rfl, hW, hM, b1⟩ := hp1
  have HM := hid hM; have B1 := hid b1; have HW := hid hW
  clear hM b1 hW
  obtain ⟨X, hX⟩ : ∃ X, w1.heap.size = X := ⟨_, rfl⟩
  go_upto_region 3 with fail
  have HX0 := hid (blkN w1 27 #[.slice AW 1 cW, .slice (some ⟨Cb, 0, none⟩) 3 3, .slice (some ⟨T, 0, none⟩) 4 4] X hX)
  have BA := hid (bgo B1.out (bnew (bnil w1) (.cells #[.slice AW 1 cW, .slice (some ⟨Cb, 0, none⟩) 3 3, .slice (some ⟨T, 0, none⟩) 4 4] 27)))
  have HMA := hid (rmach_at (ws := [(R : Int)]) (HM.out.below (bnew (bnil w1) (.cells #[.slice AW 1 cW, .slice (some ⟨Cb, 0, none⟩) 3 3, .slice (some ⟨T, 0, none⟩) 4 4] 27))) (by omega) (by decide) (by decide) (by decide) rfl rfl enter_sh leave_sh)
  have HWA := hid (own_below HW.out (bnew (bnil w1) (.cells #[.slice AW 1 cW, .slice (some ⟨Cb, 0, none⟩) 3 3, .slice (some ⟨T, 0, none⟩) 4 4] 27)))
  generalize World.alloc w1 _ = wA at *
  clear hX HM HW
  have HWS := hid (show Sl wA 1 AW 1 (ints [(R : Int)]) from Sl.own HWA.out)
  clear HWA
  go_wp2_with fail
  go_loopw [6, 7] (fun v o wr => ∃ (d N : Nat) (As : Option Addr) (cs : Nat), d ≤ 4 * R ∧ o = .int .i64 d ∧ v = .slice As N cs ∧ Hid ((partsS (seT R) (seC R) d).length = N) ∧ Hid (Ow wA wr 3 1 gI (.slice As N cs) (nats (partsS (seT R) (seC R) d)))) (fun _ o _ => 4 * R - (intOf o).toNat)
  case atStart => exact ⟨0, 0, none, 0, Nat.zero_le _, rfl, rfl, hid rfl, hid (Ow.nil _ _ _ _)⟩
  case round =>
    obtain ⟨d, N, As, cs, hd, rfl, rfl, HN, HO⟩ := hrel
    have ew : wrap64 (4 * (R : Int)) = ((4 * R : Nat) : Int) := by rw [wrap_sm (by omega) (by omega)]; omega
    by_cases hlt : d < 4 * R
    · have j1 : (d : Int) < 4 * (R : Int) := by omega
      obtain ⟨t, ht⟩ : ∃ t, d % R = t := ⟨_, rfl⟩
      obtain ⟨q, hq⟩ : ∃ q, d / R = q := ⟨_, rfl⟩
      have e1 : (d : Int).tmod (R : Int) = (t : Int) := by rw [Int.tmod_eq_emod_of_nonneg (by omega), ← ht]; omega
      have e2 : (d : Int).tdiv (R : Int) = (q : Int) := by rw [Int.tdiv_eq_ediv_of_nonneg (by omega), ← hq]; omega
      have htR : t < R := by rw [← ht]; exact Nat.mod_lt _ (by omega)
      have hq4 : q ≤ 16 := by rw [← hq]; exact Nat.le_trans (Nat.div_le_self _ _) (by omega)
      have rz : ¬ ((R : Int) = 0) := by omega
      have HTD := hid ht; have HQD := hid hq
      clear ht hq
      have hc6 : seC R d ≤ 6 := by unfold seC; split <;> omega
      go_wp2_with fail
      go_loopw [6, 10] (fun v o wx => ∃ (i N : Nat) (As : Option Addr) (cs : Nat), i ≤ seC R d ∧ o = .int .i64 i ∧ v = .slice As N cs ∧ N ≤ cs ∧ Hid ((partsS (seT R) (seC R) d ++ List.replicate i t).length = N) ∧ Hid (Ow wA wx 3 1 gI (.slice As N cs) (nats (partsS (seT R) (seC R) d ++ List.replicate i t)))) (fun _ o _ => 100 - (intOf o).toNat)
      case atStart => exact ⟨0, N, As, cs, Nat.zero_le _, rfl, rfl, (by obtain ⟨A', c', e, h1, _⟩ := own_form HO.out.own; injection e with _ e3 e4; omega), (by rw [List.replicate_zero, List.append_nil]; exact HN), (by rw [List.replicate_zero, List.append_nil]; exact HO)⟩
      case round =>
        clear HO HN
        obtain ⟨i, N, As, cs, hi, rfl, rfl, hcs, HN, HO⟩ := hrel
        have i1 : (i : Int) ≤ 100 := by omega
        have HX1 := hid (HX0.out.below' HO.out.below)
        have y0 : wr.cell? ⟨X, 0, none⟩ = some (.slice AW 1 cW) := HX1.out.cell 0
        have y1 : wr.cell? ⟨X, 1, none⟩ = some (.slice (some ⟨Cb, 0, none⟩) 3 3) := HX1.out.cell 1
        have y2 : wr.cell? ⟨X, 2, none⟩ = some (.slice (some ⟨T, 0, none⟩) 4 4) := HX1.out.cell 2
        have HTR := hid (HT.out.below (bgo BA.out HO.out.below))
        have HMR := hid (HMA.out.below HO.out.below)
        have HWR := hid (HWS.out.below HO.out.below)
        have HSR := hid (show Sl wr 1 As N (ints ((partsS (seT R) (seC R) d ++ List.replicate i t).map fun x : Nat => (x : Int))) from HO.out.sl)
        have hN6 : N ≤ 6000 := by
          have h1 := parts_len (tD := seT R) (cD := seC R) (c := 6) (fun d => by unfold seC; split <;> omega) d
          rw [← HN.out, List.length_append, List.length_replicate]
          omega
        have HLT := hid (parts_mem (tD := seT R) (cD := seC R) (N := 4) (fun d => Nat.lt_of_lt_of_le (Nat.mod_lt _ (by omega)) hR4) d i t (by omega))
        have hse := sema_ends hR1 hR4 hlt hi
        rw [HTD.out, HQD.out] at hse
        have HNE := hid hse.1
        have HEN := hid hse.2
        clear hse
        go_wp2_with fail
        refine (ran_of AW (some ⟨Cb, 0, none⟩) (some ⟨T, 0, none⟩) As 1 cW 3 3 4 4 N cs (seM R) (partsS (seT R) (seC R) d ++ List.replicate i t) wr (by decide) (by decide) (by decide) hN6 hcs HTR.out HMR.out HWR.out HSR.out HLT.out HNE.out (play_fin _ _)).mono ?_
        rintro e w5 hp3
        obtain ⟨v3, rs, rfl, hrow, hrs, htold, b3⟩ := hp3
        obtain ⟨A3, c3, rfl, hc3, hc3'⟩ := own_form hrow
        obtain ⟨LD, hLD⟩ : ∃ LD, rs.length = LD := ⟨_, rfl⟩
        rw [hLD] at hrow hc3 ⊢
        have HD := hid (DsAt.mk hLD hrow htold)
        rw [← hrs] at HEN
        have HO5 := hid (HO.out.step b3)
        clear hrow htold hrs b3 hLD y0 y1 y2 HX1 HTR HMR HWR HSR HLT HNE HO
        unfold maxLen at hc3'
        go_wp2_with fail
        go_loopw [13, 14] (fun o kk wz => ∃ (k z : Nat), k ≤ LD ∧ z ≤ k ∧ kk = .int .i64 k ∧ o = .int .i64 z ∧ Hid (z = endedN ((rs.map (·.1)).take k) t) ∧ Hid (Below w5.heap.size w5 wz)) (fun _ kk _ => LD - (intOf kk).toNat)
        case atStart => exact ⟨0, 0, Nat.zero_le _, Nat.le_refl _, rfl, rfl, hid rfl, hid (bnil _)⟩
        case round =>
          obtain ⟨k, z, hk, hz, rfl, rfl, HZ, BR⟩ := hrel
          by_cases hlt2 : k < LD
          · have j2 : (k : Int) < (LD : Int) := by omega
            obtain ⟨b9, d2, At, ct, rfl, hd2, lt9, u0, u1, u2, u3, u4, ut⟩ := (HD.out.below BR.out).at_ hlt2
            have HE := hid (ended_take t hd2)
            clear hd2 ut
            by_cases htt : d2.t = t
            · have f1 : ((d2.t : Int) == (t : Int)) = true := beqT (by omega)
              cases he : d2.e with
              | none =>
                have e1 : eI d2.e = -1 := by rw [he]; rfl
                rw [e1] at u1
                have HZ1 := hid (show z = endedN ((rs.map (·.1)).take (k + 1)) t by rw [HE.out, he, HZ.out]; simp)
                clear e1 he
                go_wp2_with fail
                go_roundw
                case rel => first | exact ⟨k + 1, z, by omega, by omega, by go_num, by go_num, HZ1, BR⟩ | exact ⟨k + 1, by omega, z, by omega, by go_num, by go_num, HZ1⟩ | exact ⟨k + 1, by omega, by omega, by go_num, HZ1, BR⟩ | exact ⟨k + 1, by omega, by omega, by go_num, HZ1⟩
                case measure => simp [intOf]; omega
              | some e2 =>
                have e1 : eI d2.e = (e2 : Int) := by rw [he]; rfl
                rw [e1] at u1
                have HZ1 := hid (show z + 1 = endedN ((rs.map (·.1)).take (k + 1)) t by rw [HE.out, he, HZ.out, htt]; simp)
                have en : ¬ ((e2 : Int) = -1) := by omega
                clear e1 he
                go_wp2_with fail
                go_roundw
                case rel => first | exact ⟨k + 1, z + 1, by omega, by omega, by go_num, by go_num, HZ1, BR⟩ | exact ⟨k + 1, by omega, z + 1, by omega, by go_num, by go_num, HZ1⟩ | exact ⟨k + 1, by omega, by omega, by go_num, HZ1, BR⟩ | exact ⟨k + 1, by omega, by omega, by go_num, HZ1⟩
                case measure => simp [intOf]; omega
            · have f1 : ¬ ((d2.t : Int) = (t : Int)) := by omega
              have HZ1 := hid (show z = endedN ((rs.map (·.1)).take (k + 1)) t by rw [HE.out, HZ.out]; simp [htt])
              go_wp2_with fail
              go_roundw
              case rel => first | exact ⟨k + 1, z, by omega, by omega, by go_num, by go_num, HZ1, BR⟩ | exact ⟨k + 1, by omega, z, by omega, by go_num, by go_num, HZ1⟩ | exact ⟨k + 1, by omega, by omega, by go_num, HZ1, BR⟩ | exact ⟨k + 1, by omega, by omega, by go_num, HZ1⟩
              case measure => simp [intOf]; omega
          · obtain rfl : k = LD := by omega
            have j2 : ¬ (k : Int) < (k : Int) := by omega
            have hz2 : z = endedN (rs.map (·.1)) t := by rw [HZ.out, List.take_of_length_le (by rw [List.length_map, HD.out.len]; exact Nat.le_refl _)]
            have hen := HEN.out
            rw [← hz2] at hen
            have HO6 := hid (HO5.out.step BR.out)
            clear hz2
            by_cases hic : i < seC R d
            · have hzq := hen.2 hic
              have k1 : ¬ ((q : Int) + 1 ≤ (z : Int)) := by omega
              have k2 : ¬ ((i : Int) = 100) := by omega
              obtain ⟨y, hy⟩ : ∃ y, nats (partsS (seT R) (seC R) d ++ List.replicate i t) ++ [(t : Int)] = y := ⟨_, rfl⟩
              have HYE := hid (show y = nats (partsS (seT R) (seC R) d ++ List.replicate (i + 1) t) by rw [← hy]; unfold nats; rw [List.replicate_succ', ← List.append_assoc, List.map_append (l₁ := partsS (seT R) (seC R) d ++ List.replicate i t)]; rfl)
              have HY := hid hy
              have HYN := hid (show y.length = N + 1 by rw [← hy, List.length_append, List.length_map, HN.out]; rfl)
              clear hy hen hzq
              go_wp2_with (at_builtin; refine wpList_appY elmI gI_one rfl (.tmp 78) (.tmp 80) rfl (.slice As N cs) _ rfl (HO6.out.alloc _) [(t : Int)] y HY rfl (Sl.fresh wr #[_] 3 1 1 rfl) (by go_num) (by rw [HYN.out]; simp only [maxLen]; omega) (by rw [HYN.out]; omega) ?_; intro A4 c4 w4 hc4 hc5 HN4 HG4 HB4)
              go_roundw
              case rel => exact ⟨i + 1, N + 1, A4, c4, by omega, by go_num, by rw [HYN.out], by rw [HYN.out] at hc4; exact hc4, hid (by have h1 := HN.out; rw [List.length_append, List.length_replicate] at h1 ⊢; omega), hid (by have h1 := HN4.out; rw [HYN.out] at h1; rw [← HYE.out]; exact h1)⟩
              case measure => simp [intOf]; omega
            · obtain rfl : i = seC R d := by omega
              have hzq : q + 1 ≤ z := by
                rcases Nat.lt_or_ge z (q + 1) with h | h
                · exact absurd (hen.1 h) (by omega)
                · exact h
              have k1 : (q : Int) + 1 ≤ (z : Int) := by omega
              clear hen hzq
              go_wp2_with fail
              go_roundw
              case rel => exact ⟨d + 1, N, As, cs, by omega, by go_num, rfl, hid (by rw [partsS, show seT R d = t from HTD.out]; exact HN.out), hid (by rw [partsS, show seT R d = t from HTD.out]; exact HO6.out)⟩
              case measure => simp [intOf]; omega
    · obtain rfl : d = 4 * R := by omega
      have j1 : ¬ (((4 * R : Nat) : Int) < 4 * (R : Int)) := by omega
      go_wp2_with fail
      go_ret
      exact ⟨rfl, bgo BA.out HO.out.below⟩
end Go.Proofs.YtnoinojhocicjaaDoor
