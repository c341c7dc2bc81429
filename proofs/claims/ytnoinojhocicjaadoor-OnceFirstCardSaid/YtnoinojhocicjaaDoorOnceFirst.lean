/-
  OnceFirst: its walk.
-/
import Derived.Test.YtnoinojhocicjaaDoorOnceAt
namespace Go.Proofs.YtnoinojhocicjaaDoor
open Go.RowKit
set_option linter.unusedVariables false

/-- the schedule: one thread behind the other, from w0 on -/
def firstS (w0 k : Nat) : List Nat := (List.range k).map fun i => (w0 + i / 240) % 4
theorem firstS_len (w0 k : Nat) : (firstS w0 k).length = k := by simp [firstS]
theorem firstS_next (w0 k : Nat) : firstS w0 (k + 1) = firstS w0 k ++ [(w0 + k / 240) % 4] := by simp [firstS, List.range_succ]
theorem firstS_lt (w0 k : Nat) : ∀ x ∈ firstS w0 k, x < 4 := by
  intro x hx
  unfold firstS at hx
  obtain ⟨y, _, rfl⟩ := List.mem_map.1 hx
  exact Nat.mod_lt _ (by decide)
def firstOk (w0 : Nat) : Bool :=
  let ds := doings (play onceMach (firstS w0 960)).evs
  ds.length == 16 && (List.range 16).all fun i => match ds[i]? with
    | none => false
    | some d => d.e.isSome && decide (d.told = [if i = 0 then 1 else 0])
set_option maxRecDepth 1000000 in
theorem first_all : ∀ w0, w0 < 4 → firstOk w0 = true := by decide +kernel
theorem first_res {w0 : Nat} (h : w0 < 4) : (doings (play onceMach (firstS w0 960)).evs).length = 16 ∧ ∀ (i : Nat) (d : Dg), i < 16 → (doings (play onceMach (firstS w0 960)).evs)[i]? = some d → (∃ e, d.e = some e) ∧ d.told = [if i = 0 then 1 else 0] := by
  have h1 := first_all w0 h
  unfold firstOk at h1
  simp only [Bool.and_eq_true, beq_iff_eq, List.all_eq_true, List.mem_range] at h1
  refine ⟨h1.1, fun i d hi hd => ?_⟩
  have h2 := h1.2 i hi
  rw [hd] at h2
  simp only [Bool.and_eq_true, decide_eq_true_eq] at h2
  exact ⟨Option.isSome_iff_exists.1 h2.1, h2.2⟩
set_option maxHeartbeats 4000000 in
set_option maxRecDepth 100000 in
theorem law_onceFirst (a : Int) (w : World) (ha : -9223372036854775808 ≤ a) (ha1 : a ≤ 9223372036854775807) (hT : STab w) :
    Calls Tryd.prog 4 #[.int .i64 a] w fun e w' => e = .returned (.bool true) ∧ Below w.heap.size w w' := by
  have HT := hid hT
  clear hT
  go_enter Tryd.func4, Tryd.ntmps4
  go_wp2_with fail
  refine (once_machine w).mono ?_
  rintro e w1 hp1
  obtain ⟨AW, cW, Cb, T, cv, tv, av, rfl, hW, hM, b1⟩ := hp1
  have HM := hid hM; have B1 := hid b1; have HW := hid hW
  clear hM b1 hW
  obtain ⟨X, hX⟩ : ∃ X, w1.heap.size = X := ⟨_, rfl⟩
  go_wp2_with fail
  have HX0 := hid (blkN w1 27 #[.slice AW 1 cW, .slice (some ⟨Cb, 0, none⟩) 1 1, .slice (some ⟨T, 0, none⟩) 4 4] X hX)
  have BA := hid (bgo B1.out (bnew (bnil w1) (.cells #[.slice AW 1 cW, .slice (some ⟨Cb, 0, none⟩) 1 1, .slice (some ⟨T, 0, none⟩) 4 4] 27)))
  have HMA := hid (HM.out.below (bnew (bnil w1) (.cells #[.slice AW 1 cW, .slice (some ⟨Cb, 0, none⟩) 1 1, .slice (some ⟨T, 0, none⟩) 4 4] 27)))
  have HWA := hid (own_below HW.out (bnew (bnil w1) (.cells #[.slice AW 1 cW, .slice (some ⟨Cb, 0, none⟩) 1 1, .slice (some ⟨T, 0, none⟩) 4 4] 27)))
  generalize World.alloc w1 _ = wA at *
  clear hX HM HW
  have p4 := pk_lt a 4 (by decide)
  obtain ⟨w0, hw0⟩ : ∃ w0, pk a 4 = w0 := ⟨_, rfl⟩
  have HW0 := hid hw0
  rw [hw0] at p4
  clear hw0
  have p4' : w0 < 4 := by omega
  go_loopw [4, 5] (fun v i wr => ∃ (t L : Nat) (A1 : Option Addr) (c1 : Nat), t ≤ 4 ∧ Hid (L = 240 * t) ∧ i = .int .i64 t ∧ v = .slice A1 L c1 ∧ Hid (Ow wA wr 3 1 gI (.slice A1 L c1) (nats (firstS w0 L)))) (fun _ i _ => 4 - (intOf i).toNat)
  case atStart => exact ⟨0, 0, none, 0, Nat.zero_le _, rfl, rfl, rfl, hid (Ow.nil _ _ _ _)⟩
  case round =>
    obtain ⟨t, L, A1, c1, ht, HL, rfl, rfl, HO⟩ := hrel
    by_cases h1 : t < 4
    · have i1 : (t : Int) < 4 := by omega
      go_wp2
      go_loopw [4, 6] (fun v i wr => ∃ (k L : Nat) (A1 : Option Addr) (c1 : Nat), k ≤ 240 ∧ Hid (L = 240 * t + k) ∧ i = .int .i64 k ∧ v = .slice A1 L c1 ∧ Hid (Ow wA wr 3 1 gI (.slice A1 L c1) (nats (firstS w0 L)))) (fun _ i _ => 240 - (intOf i).toNat)
      case atStart => exact ⟨0, L, A1, c1, Nat.zero_le _, HL, rfl, rfl, HO⟩
      case round =>
        clear HL HO
        obtain ⟨k, L, A1, c1, hk, HL, rfl, rfl, HO⟩ := hrel
        by_cases h2 : k < 240
        · have i2 : (k : Int) < 240 := by omega
          have hL960 : L < 960 := by have := HL.out; omega
          obtain ⟨r, hr⟩ : ∃ r, (w0 + t) % 4 = r := ⟨_, rfl⟩
          have em : ((w0 : Int) + (t : Int)).tmod 4 = (r : Int) := by rw [Int.tmod_eq_emod_of_nonneg (by omega), ← hr]; omega
          have em2 : ((w0 : Int) + (t : Int)) % 4 = (r : Int) := by omega
          have hr2 : r < 4 := by omega
          obtain ⟨y, hy⟩ : ∃ y, nats (firstS w0 L) ++ [(r : Int)] = y := ⟨_, rfl⟩
          have HYE := hid (show y = nats (firstS w0 (L + 1)) by rw [← hy, firstS_next, ← hr, show L / 240 = t by have := HL.out; omega]; unfold nats; rw [List.map_append]; rfl)
          have HY := hid hy
          have HYN := hid (show y.length = L + 1 by rw [HYE.out]; unfold nats; rw [List.length_map, firstS_len])
          clear hy hr
          go_wp2_with (first
            | (go_at_call 22; refine (picked _ _ _ (by omega) (by omega) (by omega) (by omega)).mono ?_; rintro e w' ⟨rfl, rfl⟩; have hpk := HW0.out; rw [show (pk a 4 : Int) = (w0 : Int) by rw [hpk]]; clear hpk)
            | (at_builtin; refine wpList_appY elmI gI_one rfl (.tmp 20) (.tmp 26) rfl (.slice A1 L c1) _ rfl (HO.out.alloc _) [(r : Int)] y HY rfl (Sl.fresh wr #[_] 3 1 1 rfl) (by go_num) (by rw [HYN.out]; simp only [maxLen]; omega) (by rw [HYN.out]; omega) ?_; intro A4 c4 w4 hc4 hc5 HN1 _ _))
          go_roundw
          case rel => exact ⟨k + 1, L + 1, A4, c4, by omega, hid (by have := HL.out; omega), by go_num, by rw [HYN.out], hid (by have h1 := HN1.out; rw [HYN.out] at h1; rw [← HYE.out]; exact h1)⟩
          case measure => simp [intOf]; omega
        · obtain rfl : k = 240 := by omega
          have i2 : ¬ (((240 : Nat) : Int)) < 240 := by omega
          go_wp2
          go_roundw
          case rel => exact ⟨t + 1, L, A1, c1, by omega, hid (by have := HL.out; omega), by go_num, rfl, HO⟩
          case measure => simp [intOf]; omega
    · obtain rfl : t = 4 := by omega
      have i1 : ¬ (((4 : Nat) : Int)) < 4 := by omega
      have hL : L = 960 := HL.out
      subst hL
      obtain ⟨Al, cl, e, hcl, hcl2⟩ := HO.out.form
      injection e with e1 e2 e3
      subst e1 e3
      clear e2 HL
      rw [show (nats (firstS w0 960)).length = 960 by simp [nats, firstS_len]] at hcl
      have x0 : wr.cell? ⟨X, 0, none⟩ = some (.slice AW 1 cW) := (HX0.out.below' HO.out.below).cell 0
      have x1 : wr.cell? ⟨X, 1, none⟩ = some (.slice (some ⟨Cb, 0, none⟩) 1 1) := (HX0.out.below' HO.out.below).cell 1
      have x2 : wr.cell? ⟨X, 2, none⟩ = some (.slice (some ⟨T, 0, none⟩) 4 4) := (HX0.out.below' HO.out.below).cell 2
      have HXB := hid (HX0.out.below' HO.out.below)
      have HMB := hid (HMA.out.below HO.out.below)
      have HWB := hid (own_below HWA.out HO.out.below)
      have B2 := hid (bgo BA.out HO.out.below)
      have HT2 := hid (HT.out.below B2.out)
      have HSL := hid (show Sl wr 1 A1 960 (ints ((firstS w0 960).map fun x : Nat => (x : Int))) by have h := HO.out.sl; first | exact h | (rw [show (nats (firstS w0 960)).length = 960 by simp [nats, firstS_len]] at h; exact h))
      have HF := hid (first_res p4')
      clear HX0 HMA HWA BA HO
      go_wp2_with fail
      refine (ran_of AW (some ⟨Cb, 0, none⟩) (some ⟨T, 0, none⟩) A1 1 cW 1 1 4 4 960 c1 onceMach (firstS w0 960) wr (by decide) (by decide) (by decide) (by decide) hcl HT2.out (once_at HMB.out) (Sl.own HWB.out) HSL.out (firstS_lt w0 960) (once_play _).2 (play_fin onceMach _)).mono ?_
      rintro e w3 hp3
      obtain ⟨v3, rs, rfl, hrow, hrs, htold, b3⟩ := hp3
      obtain ⟨A3, c3, rfl, hc3, hc3'⟩ := own_form hrow
      rw [← hrs] at HF
      have hLD : rs.length = 16 := by have := HF.out.1; rw [List.length_map] at this; exact this
      rw [hLD] at hrow hc3 ⊢
      have HD := hid (DsAt.mk hLD hrow htold)
      have B3 := hid b3
      clear hrow htold hrs b3 hLD
      have HX3 := hid (HXB.out.below' B3.out)
      have HM3 := hid (HMB.out.below B3.out)
      obtain ⟨Ac, cc, hAc⟩ := once_code HM3.out
      have y0 : w3.cell? ⟨X, 0, none⟩ = some (.slice AW 1 cW) := HX3.out.cell 0
      have y1 : w3.cell? ⟨X, 1, none⟩ = some (.slice (some ⟨Cb, 0, none⟩) 1 1) := HX3.out.cell 1
      have y2 : w3.cell? ⟨X, 2, none⟩ = some (.slice (some ⟨T, 0, none⟩) 4 4) := HX3.out.cell 2
      have B23 := hid (bgo B2.out B3.out)
      clear x0 x1 x2 HXB HMB HWB HT2 HSL
      go_wp2_with fail
      clear y0 y1 y2 hAc HX3 HM3
      go_loopw [9] (fun i wr => ∃ k : Nat, k ≤ 16 ∧ i = .int .i64 k ∧ Hid (Below w3.heap.size w3 wr)) (fun i _ => 16 - (intOf i).toNat)
      case atStart => exact ⟨0, Nat.zero_le _, rfl, hid (bnil _)⟩
      case round =>
        obtain ⟨k, hk, rfl, BR⟩ := hrel
        by_cases hlt : k < 16
        · have j1 : (k : Int) < 16 := by omega
          obtain ⟨b9, d, At, ct, rfl, hd, lt9, u0, u1, u2, u3, u4, ut⟩ := (HD.out.below BR.out).at_ hlt
          obtain ⟨⟨e, he⟩, htd⟩ := HF.out.2 k d hlt hd
          rw [he] at u1
          simp only [eI] at u1
          have en : ¬ ((e : Int) = -1) := by omega
          have hl1 : d.told.length = 1 := by rw [htd]; rfl
          have hs := Sl.own ut
          rw [hl1] at u4
          rw [hl1, htd] at hs
          have HSS := hid hs
          clear hd ut hs htd he hl1
          by_cases hk0 : k = 0
          all_goals
            first
              | (subst hk0; rw [if_pos rfl] at HSS)
              | (have hk1 : ¬ (k : Int) = 0 := by omega
                 rw [if_neg hk0] at HSS)
            go_wp2_with fail
            refine (same_ints At _ 1 ct 1 [_] _ (by decide) (HSS.out.below (bnew (bnil _) _)) (Sl.fresh _ #[_] 3 1 1 rfl)).mono ?_
            rintro e5 w5 ⟨rfl, b5⟩
            have B5 := hid (bgo BR.out (bgo (bnew (bnil _) _) b5))
            go_wp2_with fail
            go_roundw
            case rel => first | exact ⟨k + 1, by omega, by go_num, B5⟩ | exact ⟨1, by omega, by go_num, B5⟩
            case measure => simp [intOf]; try omega
        · obtain rfl : k = 16 := by omega
          have j1 : ¬ (((16 : Nat) : Int)) < 16 := by omega
          go_wp2_with fail
          go_ret
          exact ⟨rfl, bgo B23.out BR.out⟩
end Go.Proofs.YtnoinojhocicjaaDoor
