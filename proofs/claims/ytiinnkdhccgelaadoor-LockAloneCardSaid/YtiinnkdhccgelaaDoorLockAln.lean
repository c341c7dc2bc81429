/-
  LockAlone: its walk.
-/
import Derived.Test.YtiinnkdhccgelaaDoorLockMach
import Derived.Test.YtiinnkdhccgelaaDoorLockEnd0
import Derived.Test.YtiinnkdhccgelaaDoorSched
import Derived.Test.YtiinnkdhccgelaaDoorDsAt
import Derived.Test.YtiinnkdhccgelaaDoorLeaves
namespace Go.Proofs.YtiinnkdhccgelaaDoor
open Go.RowKit
set_option linter.unusedVariables false

theorem laF_list {W : Nat} (h : W < 4) : ((List.replicate 4 (0 : Int)).set W 4) = (List.range 4).map fun t => ((laF W t : Nat) : Int) := by
  rcases (show W = 0 ∨ W = 1 ∨ W = 2 ∨ W = 3 by omega) with rfl | rfl | rfl | rfl <;> decide
theorem one_more (N W : Nat) : List.replicate N (W : Int) ++ [(W : Int)] = List.replicate (N + 1) (W : Int) := by rw [show ([(W : Int)] : List Int) = List.replicate 1 (W : Int) from rfl, List.replicate_append_replicate]
set_option maxHeartbeats 8000000 in
set_option maxRecDepth 100000 in
theorem law_lockAlone (xi xj : Int) (w : World) (ha : -9223372036854775808 ≤ xi) (ha1 : xi ≤ 9223372036854775807) (hb : -9223372036854775808 ≤ xj) (hb1 : xj ≤ 9223372036854775807) (hT : STab w) :
    Calls Tryd.prog 16 #[.int .i64 xi, .int .i64 xj] w fun e w' => e = .returned (.bool true) ∧ Below w.heap.size w w' := by
  have HT := hid hT
  clear hT
  have m1 := pk_lt xi 4 (by decide)
  obtain ⟨n, hR⟩ : ∃ n : Nat, wrap64 (1 + (pk xi 4 : Int)) = (n : Int) ∧ n = 1 + pk xi 4 := ⟨1 + pk xi 4, by rw [wrap_mid (by omega) (by omega)]; omega, rfl⟩
  have h1 : 1 ≤ n := by omega
  have h4 : n ≤ 4 := by omega
  have HR := hid hR.1
  have m2 := pk_lt xj (n : Int) (by omega)
  obtain ⟨W, hW0⟩ : ∃ W : Nat, pk xj (n : Int) = W := ⟨_, rfl⟩
  have hWn : W < n := by omega
  have HW0 := hid hW0
  clear hR m1 m2 hW0
  go_enter Tryd.func16, Tryd.ntmps16
  go_wp2_with fail
  refine (picked xi 4 w (by decide) ha ha1 (by decide)).mono ?_
  rintro e w' ⟨rfl, rfl⟩
  go_wp2_with fail
  rw [HR.out]
  refine (picked xj (n : Int) w (by omega) hb hb1 (by omega)).mono ?_
  rintro e w' ⟨rfl, rfl⟩
  rw [HW0.out]
  obtain ⟨cs, hcs, hmk⟩ := mk_intsL w 4 (by decide)
  have hmk : (Instr.makeSlice 24 (.int .i64 4) (.int .i64 4)).run Tryd.prog w = .ok (.slice (some ⟨w.heap.size, 0, none⟩) 4 4) (w.alloc (.cells cs 3)) := hmk
  obtain ⟨bo, hbo⟩ : ∃ bo, w.heap.size = bo := ⟨_, rfl⟩
  have K0 := hid (blkN w 3 cs bo hbo)
  have O0 := hid (show Ow w (w.alloc (.cells cs 3)) 3 1 gI (.slice (some ⟨bo, 0, none⟩) 4 4) (List.replicate 4 0) from
    ⟨⟨by simp, .inr ⟨bo, 4, cs, by rw [List.length_replicate], by omega, K0.out, by simp, by unfold maxLen; omega, by rw [← Array.length_toList, hcs, flatMap_len gI 1 (fun _ => rfl)]; simp, by rw [hcs, List.take_of_length_le]; rw [flatMap_len gI 1 (fun _ => rfl)]; simp⟩⟩, bnew (bnil w) _⟩)
  rw [hbo] at hmk
  have iW4 : (W : Int) < 4 := by omega
  have cW0 : ∃ u, (w.alloc (.cells cs 3)).cell? ⟨bo, W, none⟩ = some u := by
    rw [K0.out.cell W]
    exact ⟨cs[W]'(by rw [← Array.length_toList, hcs, flatMap_len gI 1 (fun _ => rfl)]; simp; omega), Array.getElem?_eq_getElem _⟩
  obtain ⟨u0, cW0⟩ := cW0
  have fW0 : (w.alloc (.cells cs 3)).frozen? ⟨bo, W, none⟩ = false := K0.out.frozen W
  have HCS := hid hcs
  clear hcs
  go_upto_region 5 with fail
  have hl4 : cs.size = 4 := by rw [← Array.length_toList, HCS.out, flatMap_len gI 1 (fun _ => rfl)]; simp
  have O1 := hid (show Ow w (w.alloc (.cells (cs.setIfInBounds W (.int .i64 4)) 3)) 3 1 gI (.slice (some ⟨bo, 0, none⟩) 4 4) ((List.range 4).map fun t => ((laF W t : Nat) : Int)) from
    ⟨⟨by rw [flatMap_len gI 1 (fun _ => rfl)], .inr ⟨bo, 4, _, by simp, by omega, blkN w 3 _ bo hbo, by simp, by unfold maxLen; omega, by simpa using hl4, by
      have hf := flatMap_set (fun x : Int => Value.int .i64 x) (List.replicate 4 (0 : Int)) W 4
      rw [laF_list (by omega)] at hf
      rw [Array.toList_setIfInBounds, HCS.out, List.take_of_length_le (by rw [List.length_set, flatMap_len gI 1 (fun _ => rfl)]; simp)]
      exact hf.symm⟩⟩, bnew (bnil w) _⟩)
  clear K0 O0 cW0 fW0 hmk HCS hl4
  generalize World.alloc w (.cells (cs.setIfInBounds W (.int .i64 4)) 3) = w1 at *
  have HSO := hid (show Sl w1 1 (some ⟨bo, 0, none⟩) 4 (ints ((List.range 4).map fun t => ((laF W t : Nat) : Int))) from O1.out.sl)
  have BO := hid O1.out.below
  clear O1
  go_wp2_with fail
  refine (lock_machine n (some ⟨bo, 0, none⟩) 4 0 (laF W) w1 h1 h4 (by decide) (fun t _ => by unfold laF; split <;> omega) HSO.out (HT.out.below BO.out)).mono ?_
  rintro e w2 hp2
  obtain ⟨AW, cW, Cb, T, cv1, tv, av, rfl, hW2, hM, b2⟩ := hp2
  have HM := hid hM; have B2 := hid (bgo BO.out b2); have HW := hid hW2
  clear hM b2 hW2 HSO BO
  obtain ⟨X, hX⟩ : ∃ X, w2.heap.size = X := ⟨_, rfl⟩
  go_upto_region 6 with fail
  have HX0 := hid (blkN w2 34 #[.slice AW (2 * n) cW, .slice (some ⟨Cb, 0, none⟩) 3 3, .slice (some ⟨T, 0, none⟩) n n] X hX)
  have BA := hid (bgo B2.out (bnew (bnil w2) (.cells #[.slice AW (2 * n) cW, .slice (some ⟨Cb, 0, none⟩) 3 3, .slice (some ⟨T, 0, none⟩) n n] 34)))
  have HMN := hid (HM.out.below (bnew (bnil w2) (.cells #[.slice AW (2 * n) cW, .slice (some ⟨Cb, 0, none⟩) 3 3, .slice (some ⟨T, 0, none⟩) n n] 34)))
  have HMA := hid (lmach_at HMN.out h1 h4 (by decide) (fun t _ => by unfold laF; split <;> omega))
  have HWA := hid (own_below HW.out (bnew (bnil w2) (.cells #[.slice AW (2 * n) cW, .slice (some ⟨Cb, 0, none⟩) 3 3, .slice (some ⟨T, 0, none⟩) n n] 34)))
  try rw [hX]
  generalize World.alloc w2 _ = wA at *
  clear hX HM HW HMN
  go_wp2_with fail
  go_loopw [10, 11] (fun v i wr => ∃ (k : Nat) (A1 : Option Addr) (c1 : Nat), k ≤ 1500 ∧ i = .int .i64 k ∧ v = .slice A1 k c1 ∧ k ≤ c1 ∧ Hid (Ow wA wr 3 1 gI (.slice A1 k c1) (List.replicate k (W : Int)))) (fun _ i _ => 1500 - (intOf i).toNat)
  case atStart => exact ⟨0, none, 0, Nat.zero_le _, rfl, rfl, Nat.le_refl _, hid (Ow.nil _ _ _ _)⟩
  case round =>
    obtain ⟨k, A1, c1, hk, rfl, rfl, hkc, HO⟩ := hrel
    by_cases hlt : k < 1500
    · have i1 : (k : Int) < 1500 := by omega
      go_wp2_with fail
      go_loopw [10, 12] (fun v o wx => ∃ (t N : Nat) (As : Option Addr) (cs : Nat), t ≤ n ∧ o = .int .i64 t ∧ v = .slice As N cs ∧ Hid (N = k + (if W < t then 1 else 0)) ∧ N ≤ 1501 ∧ N ≤ cs ∧ Hid (Ow wA wx 3 1 gI (.slice As N cs) (List.replicate N (W : Int)))) (fun _ o _ => n - (intOf o).toNat)
      case atStart => exact ⟨0, k, A1, c1, Nat.zero_le _, rfl, rfl, hid (by rw [if_neg (Nat.not_lt_zero _), Nat.add_zero]), by omega, hkc, HO⟩
      case round =>
        clear HO hkc
        obtain ⟨t, N, As, cs, ht, rfl, rfl, HNE, hN1, hcs, HO⟩ := hrel
        by_cases hi2 : t < n
        · have j2 : (t : Int) < (n : Int) := by omega
          by_cases htw : t = W
          · subst htw
            obtain ⟨y, hy⟩ : ∃ y, List.replicate N (t : Int) ++ [(t : Int)] = y := ⟨_, rfl⟩
            have HY := hid hy
            have HYE := hid (show y = List.replicate (N + 1) (t : Int) by rw [← hy]; exact one_more N t)
            have HYN := hid (show y.length = N + 1 by rw [HYE.out, List.length_replicate])
            have hNk : N = k := by have h := HNE.out; rw [if_neg (Nat.lt_irrefl _)] at h; omega
            have HNK := hid hNk
            clear hy hNk
            go_wp2_with (at_builtin; refine wpList_appY elmI gI_one rfl (.tmp 44) (.tmp 46) rfl (.slice As N cs) _ rfl (HO.out.alloc _) [(t : Int)] y HY rfl (Sl.fresh wr #[_] 3 1 1 rfl) (by go_num) (by rw [HYN.out]; simp only [maxLen]; omega) (by rw [HYN.out]; omega) ?_; intro A4 c4 w4 hc4 hc5 HN1 _ _)
            go_roundw
            case rel => exact ⟨t + 1, N + 1, A4, c4, by omega, by go_num, by rw [HYN.out], hid (by rw [if_pos (Nat.lt_succ_self _), HNK.out]), by have := HNK.out; omega, by rw [HYN.out] at hc4; exact hc4, hid (by have h1 := HN1.out; rw [HYN.out] at h1; rw [← HYE.out]; exact h1)⟩
            case measure => simp [intOf]; omega
          · have g1 : ((t : Int) == (W : Int)) = false := beqF (by omega)
            have HNE2 := hid (show N = k + (if W < t + 1 then 1 else 0) by
              have h := HNE.out
              by_cases e : W < t
              · rw [if_pos e] at h; rw [if_pos (by omega)]; exact h
              · rw [if_neg e] at h; rw [if_neg (by omega)]; exact h)
            clear htw
            go_wp2_with fail
            go_roundw
            case rel => exact ⟨t + 1, N, As, cs, by omega, by go_num, rfl, HNE2, hN1, hcs, HO⟩
            case measure => simp [intOf]; omega
        · obtain rfl : t = n := by omega
          have j2 : ¬ (t : Int) < (t : Int) := by omega
          have hNk : N = k + 1 := by have h := HNE.out; rw [if_pos hWn] at h; exact h
          subst hNk
          go_wp2_with fail
          go_roundw
          case rel => exact ⟨k + 1, As, cs, by omega, by go_num, rfl, hcs, HO⟩
          case measure => simp [intOf]; omega
    · obtain rfl : k = 1500 := by omega
      have j1 : ¬ (((1500 : Nat) : Int) < 1500) := by omega
      have BS := hid HO.out.below
      have z0 : wr.cell? ⟨X, 0, none⟩ = some (.slice AW (2 * n) cW) := (HX0.out.below' BS.out).cell 0
      have z1 : wr.cell? ⟨X, 1, none⟩ = some (.slice (some ⟨Cb, 0, none⟩) 3 3) := (HX0.out.below' BS.out).cell 1
      have z2 : wr.cell? ⟨X, 2, none⟩ = some (.slice (some ⟨T, 0, none⟩) n n) := (HX0.out.below' BS.out).cell 2
      have HRT := hid (lock_alone h1 h4 hWn)
      obtain ⟨all, hall⟩ : ∃ all, List.replicate 1500 W = all := ⟨_, rfl⟩
      have HOI := hid (show Sl wr 1 A1 1500 (ints (nats all)) from by rw [← hall, show nats (List.replicate 1500 W) = List.replicate 1500 (W : Int) from List.map_replicate]; exact HO.out.sl)
      have HLT := hid (show ∀ x ∈ all, x < n from fun x hx => by rw [← hall] at hx; rw [(List.mem_replicate.1 hx).2]; exact hWn)
      rw [hall] at HRT
      clear hall HO hk hlt
      go_wp2_with fail
      have HWS := hid (show Sl wr 1 AW (2 * n) (ints (List.replicate (2 * n) (0 : Int))) from Sl.own (own_below HWA.out BS.out)); have HMB := hid (HMA.out.below BS.out)
      refine (ran_of AW (some ⟨Cb, 0, none⟩) (some ⟨T, 0, none⟩) A1 (2 * n) cW 3 3 n n 1500 c1 (lmach n (laF W) 0) all wr (by omega) (by decide) (by omega) (by decide) hkc (HT.out.below (bgo BA.out BS.out)) HMB.out HWS.out HOI.out HLT.out HRT.out.1 (play_fin _ all)).mono ?_
      rintro e w3 hp3
      obtain ⟨v3, rs, rfl, hrow, hrs, htold, b3⟩ := hp3
      obtain ⟨A3, c3, rfl, hc3, hc3'⟩ := own_form hrow
      have hLD : rs.length = 8 := by have := congrArg List.length hrs; rw [List.length_map] at this; exact this.trans HRT.out.2.1
      rw [hLD] at hrow hc3 ⊢
      have HD := hid (DsAt.mk hLD hrow htold)
      have B3 := hid (bgo (bgo BA.out BS.out) b3)
      have HQ := hid HRT.out.2.2
      rw [← hrs] at HQ
      clear hrow htold hrs b3 hLD z0 z1 z2 HX0 HMA HWA BA HWS HMB BS HOI HLT HRT
      go_wp2_with fail
      go_loopw [15] (fun i wz => ∃ k : Nat, k ≤ 8 ∧ i = .int .i64 k ∧ Hid (Below w3.heap.size w3 wz)) (fun i _ => 8 - (intOf i).toNat)
      case atStart => exact ⟨0, Nat.zero_le _, rfl, hid (bnil _)⟩
      case round =>
        obtain ⟨j, hj, rfl, BZ⟩ := hrel
        by_cases hlt2 : j < 8
        · have j2 : (j : Int) < 8 := by omega
          obtain ⟨b9, d, At, ct, rfl, hd, lt9, u0, u1, u2, u3, u4, ut⟩ := (HD.out.below BZ.out).at_ hlt2
          obtain ⟨hen, hdt⟩ := HQ.out d (List.mem_of_getElem? hd)
          rw [hdt] at u2
          clear hd ut u0 u3 u4
          cases he : d.e with
          | none => exact absurd he hen
          | some e2 =>
            have e1 : eI d.e = (e2 : Int) := by rw [he]; rfl
            rw [e1] at u1
            have en2 : ((e2 : Int) == -1) = false := beqF (by omega)
            have en : ¬ ((e2 : Int) = -1) := by omega
            clear e1 he hen hdt
            go_wp2_with fail
            go_roundw
            case rel => exact ⟨j + 1, by omega, by go_num, BZ⟩
            case measure => simp [intOf]; omega
        · obtain rfl : j = 8 := by omega
          have j2 : ¬ (((8 : Nat) : Int) < 8) := by omega
          go_wp2_with fail
          go_ret
          exact ⟨rfl, by have h := bgo B3.out BZ.out; rw [hbo] at h; exact h⟩
end Go.Proofs.YtiinnkdhccgelaaDoor
