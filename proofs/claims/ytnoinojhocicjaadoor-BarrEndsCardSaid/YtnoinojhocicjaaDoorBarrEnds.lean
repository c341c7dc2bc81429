/-
  BarrEnds: its walk. Written by gen_barre.py.
-/
import Derived.Test.YtnoinojhocicjaaDoorBarrMach
import Derived.Test.YtnoinojhocicjaaDoorBarrEnd0
import Derived.Test.YtnoinojhocicjaaDoorSched
namespace Go.Proofs.YtnoinojhocicjaaDoor
open Go.RowKit
set_option linter.unusedVariables false

set_option maxHeartbeats 8000000 in
set_option maxRecDepth 100000 in
theorem law_barrEnds (xr xw : Int) (w : World) (ha : -9223372036854775808 ≤ xr) (ha1 : xr ≤ 9223372036854775807) (hb : -9223372036854775808 ≤ xw) (hb1 : xw ≤ 9223372036854775807) (hT : STab w) :
    Calls Tryd.prog 13 #[.int .i64 xr, .int .i64 xw] w fun e w' => e = .returned (.bool true) ∧ Below w.heap.size w w' := by
  have HT := hid hT
  clear hT
  have m1 := pk_lt xr 4 (by decide)
  have k1 := pk_lt xw 7 (by decide)
  obtain ⟨n, hR⟩ : ∃ n : Nat, wrap64 (1 + (pk xr 4 : Int)) = (n : Int) ∧ n = 1 + pk xr 4 := ⟨1 + pk xr 4, by rw [wrap_sm (by omega) (by omega)]; omega, rfl⟩
  obtain ⟨K, hwk⟩ : ∃ K : Nat, wrap64 (1 + (pk xw 7 : Int)) = (K : Int) ∧ K = 1 + pk xw 7 := ⟨1 + pk xw 7, by rw [wrap_sm (by omega) (by omega)]; omega, rfl⟩
  have h1 : 1 ≤ n := by omega
  have h4 : n ≤ 4 := by omega
  have hK1 : 1 ≤ K := by omega
  have hK7 : K ≤ 7 := by omega
  have HR := hid hR.1; have HWK := hid hwk.1
  clear hR hwk m1 k1
  go_enter Tryd.func13, Tryd.ntmps13
  go_wp2_with fail
  refine (picked xr 4 w (by decide) ha ha1 (by decide)).mono ?_
  rintro e w' ⟨rfl, rfl⟩
  go_wp2_with fail
  refine (picked xw 7 w (by decide) hb hb1 (by decide)).mono ?_
  rintro e w' ⟨rfl, rfl⟩
  go_wp2_with fail
  rw [HR.out, HWK.out]
  refine (barr_machine n K 0 w h1 h4 (by omega) (by decide) HT.out).mono ?_
  rintro e w1 hp1
  obtain ⟨AW, cW, AC, cC, T, cv, tv, av, rfl, hW, hM, b1⟩ := hp1
  have HM := hid hM; have B1 := hid b1; have HW := hid hW
  have hcC1 : n + 1 ≤ cC := by obtain ⟨A', c', e, h1, _⟩ := own_form hM.co; injection e with _ _ e3; omega
  clear hM b1 hW
  obtain ⟨X, hX⟩ : ∃ X, w1.heap.size = X := ⟨_, rfl⟩
  go_upto_region 4 with fail
  have HX0 := hid (blkN w1 27 #[.slice AW 1 cW, .slice AC (n + 1) cC, .slice (some ⟨T, 0, none⟩) n n] X hX)
  have BA := hid (bgo B1.out (bnew (bnil w1) (.cells #[.slice AW 1 cW, .slice AC (n + 1) cC, .slice (some ⟨T, 0, none⟩) n n] 27)))
  have HMA := hid (barr_at (HM.out.below (bnew (bnil w1) (.cells #[.slice AW 1 cW, .slice AC (n + 1) cC, .slice (some ⟨T, 0, none⟩) n n] 27))) h1 h4 (by omega) (by decide))
  have HWA := hid (own_below HW.out (bnew (bnil w1) (.cells #[.slice AW 1 cW, .slice AC (n + 1) cC, .slice (some ⟨T, 0, none⟩) n n] 27)))
  generalize World.alloc w1 _ = wA at *
  clear hX HM HW
  have HWS := hid (show Sl wA 1 AW 1 (ints ([0] : List Int)) from Sl.own HWA.out)
  clear HWA
  obtain ⟨K2, hK2⟩ : ∃ K2, 200 * K = K2 := ⟨_, rfl⟩
  have HK2 := hid hK2
  have ek : wrap64 (200 * (K : Int)) = (K2 : Int) := by rw [← hK2, wrap_sm (by omega) (by omega)]; omega
  have ek2 : 200 * (K : Int) = (K2 : Int) := by rw [← hK2]; omega
  have hK2b : K2 ≤ 1400 := by omega
  clear hK2
  go_wp2_with fail
  go_loopw [9, 10] (fun v o wr => ∃ (i N : Nat) (As : Option Addr) (cs : Nat), i ≤ K2 ∧ o = .int .i64 i ∧ v = .slice As N cs ∧ Hid (N = n * i) ∧ N ≤ cs ∧ Hid (Ow wA wr 3 1 gI (.slice As N cs) (nats (rrS n i)))) (fun _ o _ => K2 - (intOf o).toNat)
  case atStart => exact ⟨0, 0, none, 0, Nat.zero_le _, rfl, rfl, hid (by simp), Nat.le_refl _, hid (Ow.nil _ _ _ _)⟩
  case round =>
    obtain ⟨i, N, As, cs, hi, rfl, rfl, HNE, hcs, HO⟩ := hrel
    have hNi : n * i ≤ 4 * 1400 := Nat.mul_le_mul h4 (by omega)
    by_cases hlt : i < K2
    · have j1 : (i : Int) < (K2 : Int) := by omega
      go_wp2_with fail
      go_loopw [9, 11] (fun v o wx => ∃ (t N : Nat) (As : Option Addr) (cs : Nat), t ≤ n ∧ o = .int .i64 t ∧ v = .slice As N cs ∧ Hid (N = n * i + t) ∧ N ≤ cs ∧ Hid (Ow wA wx 3 1 gI (.slice As N cs) (nats (rrS n i ++ List.range t)))) (fun _ o _ => n - (intOf o).toNat)
      case atStart => exact ⟨0, N, As, cs, Nat.zero_le _, rfl, rfl, hid (by have := HNE.out; omega), hcs, (by rw [show rrS n i ++ List.range 0 = rrS n i from List.append_nil _]; exact HO)⟩
      case round =>
        clear HO HNE hcs
        obtain ⟨t, N, As, cs, ht, rfl, rfl, HNE, hcs, HO⟩ := hrel
        by_cases hi2 : t < n
        · have j2 : (t : Int) < (n : Int) := by omega
          obtain ⟨y, hy⟩ : ∃ y, nats (rrS n i ++ List.range t) ++ [(t : Int)] = y := ⟨_, rfl⟩
          have HYE := hid (show y = nats (rrS n i ++ List.range (t + 1)) by rw [← hy, List.range_succ]; unfold nats; rw [← List.append_assoc, List.map_append (l₁ := rrS n i ++ List.range t)]; rfl)
          have HY := hid hy
          have HYN := hid (show y.length = N + 1 by rw [← hy, List.length_append, List.length_map]; rw [List.length_append, List.length_range, rrS_len, HNE.out]; rfl)
          have hNb : N ≤ 6000 := by have := HNE.out; omega
          clear hy
          go_wp2_with (at_builtin; refine wpList_appY elmI gI_one rfl (.tmp 38) (.tmp 40) rfl (.slice As N cs) _ rfl (HO.out.alloc _) [(t : Int)] y HY rfl (Sl.fresh wr #[_] 3 1 1 rfl) (by go_num) (by rw [HYN.out]; simp only [maxLen]; omega) (by rw [HYN.out]; omega) ?_; intro A4 c4 w4 hc4 hc5 HN4 HG4 HB4)
          go_roundw
          case rel => exact ⟨t + 1, N + 1, A4, c4, by omega, by go_num, by rw [HYN.out], hid (by have := HNE.out; omega), by rw [HYN.out] at hc4; exact hc4, hid (by have h1 := HN4.out; rw [HYN.out] at h1; rw [← HYE.out]; exact h1)⟩
          case measure => simp [intOf]; omega
        · obtain rfl : t = n := by omega
          have j2 : ¬ (t : Int) < (t : Int) := by omega
          go_wp2_with fail
          go_roundw
          case rel => exact ⟨i + 1, N, As, cs, by omega, by go_num, rfl, hid (by have := HNE.out; rw [Nat.mul_succ]; omega), hcs, HO⟩
          case measure => simp [intOf]; omega
    · obtain rfl : i = K2 := by omega
      have j1 : ¬ (i : Int) < (i : Int) := by omega
      have HX1 := hid (HX0.out.below' HO.out.below)
      have y0 : wr.cell? ⟨X, 0, none⟩ = some (.slice AW 1 cW) := HX1.out.cell 0
      have y1 : wr.cell? ⟨X, 1, none⟩ = some (.slice AC (n + 1) cC) := HX1.out.cell 1
      have y2 : wr.cell? ⟨X, 2, none⟩ = some (.slice (some ⟨T, 0, none⟩) n n) := HX1.out.cell 2
      have HTR := hid (HT.out.below (bgo BA.out HO.out.below))
      have HMR := hid (HMA.out.below HO.out.below)
      have HWR := hid (HWS.out.below HO.out.below)
      have HSR := hid (show Sl wr 1 As N (ints ((rrS n i : List Nat).map fun x : Nat => (x : Int))) from HO.out.sl)
      have HLT := hid (rrS_lt n i)
      have hbe := barr_ends h1 h4 (show K < 8 by omega)
      rw [HK2.out] at hbe
      have HNER := hid hbe.1
      have HLL := hid hbe.2.1
      have HEA := hid hbe.2.2
      have hNb : N ≤ 6000 := by have := HNE.out; omega
      clear hbe
      go_wp2_with fail
      refine (ran_of AW AC (some ⟨T, 0, none⟩) As 1 cW (n + 1) cC n n N cs (barrMach n K 0) (rrS n i) wr (by decide) (by omega) (by omega) hNb hcs HTR.out HMR.out HWR.out HSR.out HLT.out HNER.out (play_fin _ _)).mono ?_
      rintro e w5 hp3
      obtain ⟨v3, rs, rfl, hrow, hrs, htold, b3⟩ := hp3
      obtain ⟨A3, c3, rfl, hc3, hc3'⟩ := own_form hrow
      obtain ⟨LD, hLD⟩ : ∃ LD, rs.length = LD := ⟨_, rfl⟩
      rw [hLD] at hrow hc3 ⊢
      have HD := hid (DsAt.mk hLD hrow htold)
      rw [← hrs] at HEA HLL
      have hld : LD = n * K := by have h := HLL.out; rw [List.length_map, hLD] at h; exact h
      have enk : (n : Int) * (K : Int) = (LD : Int) := by rw [hld]; simp
      have hldb : LD ≤ 28 := by rw [hld]; exact Nat.le_trans (Nat.mul_le_mul h4 hK7) (by decide)
      have B5 := hid (bgo (bgo BA.out HO.out.below) b3)
      clear hrow htold hrs b3 hLD y0 y1 y2 HX1 HTR HMR HWR HSR HLT HNER HO HLL hld
      unfold maxLen at hc3'
      go_wp2_with fail
      go_loopw [14] (fun kk wz => ∃ (k : Nat), k ≤ LD ∧ kk = .int .i64 k ∧ Hid (Below w5.heap.size w5 wz)) (fun kk _ => LD - (intOf kk).toNat)
      case atStart => exact ⟨0, Nat.zero_le _, rfl, hid (bnil _)⟩
      case round =>
        obtain ⟨k, hk, rfl, BZ⟩ := hrel
        by_cases hlt2 : k < LD
        · have j2 : (k : Int) < (LD : Int) := by omega
          obtain ⟨b9, d2, At, ct, rfl, hd2, lt9, u0, u1, u2, u3, u4, ut⟩ := (HD.out.below BZ.out).at_ hlt2
          have hea := HEA.out d2 (List.mem_of_getElem? hd2)
          clear hd2 ut
          cases he : d2.e with
          | none => exact absurd he hea
          | some e2 =>
            have e1 : eI d2.e = (e2 : Int) := by rw [he]; rfl
            rw [e1] at u1
            have en : ¬ ((e2 : Int) = -1) := by omega
            clear e1 he hea
            go_wp2_with fail
            go_roundw
            case rel => exact ⟨k + 1, by omega, by go_num, BZ⟩
            case measure => simp [intOf]; omega
        · obtain rfl : k = LD := by omega
          have j2 : ¬ (k : Int) < (k : Int) := by omega
          go_wp2_with fail
          go_ret
          exact ⟨rfl, bgo B5.out BZ.out⟩
end Go.Proofs.YtnoinojhocicjaaDoor
