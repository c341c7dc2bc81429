/-
  LockEnds: its walk.
-/
import Derived.Test.YtiinnkdhccgelaaDoorLockMach
import Derived.Test.YtiinnkdhccgelaaDoorLockEnd0
import Derived.Test.YtiinnkdhccgelaaDoorSched
import Derived.Test.YtiinnkdhccgelaaDoorDsAt
import Derived.Test.YtiinnkdhccgelaaDoorLeaves
namespace Go.Proofs.YtiinnkdhccgelaaDoor
open Go.RowKit
set_option linter.unusedVariables false

/-- how often thread t comes in -/
def leK (n : Nat) (l : List Int) (t : Nat) : Nat := if t < n then (match l[t]? with | some x => pk x 2 | none => 0) else 0
theorem leK_lt (n : Nat) (l : List Int) (t : Nat) : leK n l t < 2 := by
  unfold leK
  split
  · split
    · have := pk_lt ‹Int› 2 (by decide); omega
    · decide
  · decide
/-- the numbers, those of threads below t -/
def leL (n : Nat) (l : List Int) (t : Nat) : List Int := (List.range 4).map fun j => if j < t then ((leK n l j : Nat) : Int) else 0
theorem leL_0 (n : Nat) (l : List Int) : leL n l 0 = List.replicate 4 0 := rfl
theorem leL_len (n : Nat) (l : List Int) (t : Nat) : (leL n l t).length = 4 := by unfold leL; simp
theorem leL_set {n t : Nat} {l : List Int} (ht : t < 4) : (leL n l t).set t ((leK n l t : Nat) : Int) = leL n l (t + 1) := by
  refine List.ext_getElem? fun j => ?_
  rw [List.getElem?_set, leL_len]
  unfold leL
  rw [List.getElem?_map, List.getElem?_map]
  by_cases hj : j < 4
  · rw [List.getElem?_range hj]
    by_cases e : t = j
    · subst e; rw [if_pos rfl, if_pos ht]; simp
    · rw [if_neg e]
      simp only [Option.map_some]
      by_cases h2 : j < t
      · rw [if_pos h2, if_pos (by omega)]
      · rw [if_neg h2, if_neg (by omega)]
  · rw [List.getElem?_eq_none (by simpa using hj)]
    simp only [Option.map_none]
    rw [if_neg (by omega)]
theorem leL_skip {n t : Nat} {l : List Int} (h : leK n l t = 0) : leL n l (t + 1) = leL n l t := by
  unfold leL
  refine List.map_congr_left fun j _ => ?_
  by_cases h2 : j < t
  · rw [if_pos h2, if_pos (by omega)]
  · rw [if_neg h2]
    by_cases e : j = t
    · subst e; rw [if_pos (by omega), h]; rfl
    · rw [if_neg (by omega)]
theorem leL_get {n t j : Nat} {l : List Int} (h : j < t) (hj : j < 4) : (leL n l t)[j]? = some ((leK n l j : Nat) : Int) := by
  unfold leL
  rw [List.getElem?_map, List.getElem?_range hj]
  simp [h]
theorem leL_all {n : Nat} {l : List Int} (h4 : n ≤ 4) : leL n l n = (List.range 4).map fun t => ((leF [leK n l 0, leK n l 1, leK n l 2, leK n l 3] t : Nat) : Int) := by
  unfold leL
  refine List.map_congr_left fun j hj => ?_
  have hj := List.mem_range.1 hj
  have e : leF [leK n l 0, leK n l 1, leK n l 2, leK n l 3] j = leK n l j := by
    rcases (show j = 0 ∨ j = 1 ∨ j = 2 ∨ j = 3 by omega) with rfl | rfl | rfl | rfl <;> rfl
  rw [e]
  split
  · rfl
  · unfold leK; rw [if_neg (by omega)]; rfl
/-- the sum so far -/
def leT (n : Nat) (l : List Int) : Nat → Nat
  | 0 => 1
  | t + 1 => leT n l t + leK n l t
theorem leT_pos (n : Nat) (l : List Int) : ∀ t, 1 ≤ leT n l t ∧ leT n l t ≤ t + 1
  | 0 => ⟨Nat.le_refl _, Nat.le_refl _⟩
  | t + 1 => by have := leT_pos n l t; have := leK_lt n l t; unfold leT; omega
theorem leT_n {n : Nat} {l : List Int} (h1 : 1 ≤ n) (h4 : n ≤ 4) : leT n l n = 1 + (leK n l 0 + leK n l 1 + leK n l 2 + leK n l 3) := by
  have hz : ∀ j, n ≤ j → leK n l j = 0 := fun j h => by unfold leK; rw [if_neg (by omega)]
  rcases (show n = 1 ∨ n = 2 ∨ n = 3 ∨ n = 4 by omega) with rfl | rfl | rfl | rfl
  · have := hz 1 (by decide); have := hz 2 (by decide); have := hz 3 (by decide); simp only [leT]; omega
  · have := hz 2 (by decide); have := hz 3 (by decide); simp only [leT]; omega
  · have := hz 3 (by decide); simp only [leT]; omega
  · simp only [leT]; omega
set_option maxHeartbeats 8000000 in
set_option maxRecDepth 100000 in
theorem law_lockEnds (xi : Int) (D : Option Addr) (r s : Nat) (os : List Int) (w : World) (ha : -9223372036854775808 ≤ xi) (ha1 : xi ≤ 9223372036854775807)
    (hr : r ≤ s) (hs : s ≤ maxLen) (_ : s * 8 ≤ 140737488351232) (hD : Sl w 1 D r (ints os)) (hos : ∀ x ∈ os, -9223372036854775808 ≤ x ∧ x ≤ 9223372036854775807) (hT : STab w) :
    Calls Tryd.prog 15 #[.int .i64 xi, .slice D r s] w fun e w' => e = .returned (.bool true) ∧ Below w.heap.size w w' := by
  have HT := hid hT; have HDD := hid hD; have HOS := hid hos; have HRL := hid hD.leni
  clear hT hD hos
  have hrl : r ≤ 9223372036854775807 := by unfold maxLen at hs; omega
  clear hs
  have m1 := pk_lt xi 4 (by decide)
  obtain ⟨n, hR⟩ : ∃ n : Nat, wrap64 (1 + (pk xi 4 : Int)) = (n : Int) ∧ n = 1 + pk xi 4 := ⟨1 + pk xi 4, by rw [wrap_mid (by omega) (by omega)]; omega, rfl⟩
  have h1 : 1 ≤ n := by omega
  have h4 : n ≤ 4 := by omega
  have HR := hid hR.1
  clear hR m1
  go_enter Tryd.func15, Tryd.ntmps15
  go_wp2_with fail
  refine (picked xi 4 w (by decide) ha ha1 (by decide)).mono ?_
  rintro e w' ⟨rfl, rfl⟩
  obtain ⟨cs, hcs, hmk0⟩ := mk_intsL w 4 (by decide)
  have hmk : (Instr.makeSlice 24 (.int .i64 4) (.int .i64 4)).run Tryd.prog w = .ok (.slice (some ⟨w.heap.size, 0, none⟩) 4 4) (w.alloc (.cells cs 3)) := hmk0
  clear hmk0
  obtain ⟨bo, hbo⟩ : ∃ bo, w.heap.size = bo := ⟨_, rfl⟩
  have HBO := hid hbo
  have K0 := hid (blkN w 3 cs bo hbo)
  have O0 := hid (show Ow w (w.alloc (.cells cs 3)) 3 1 gI (.slice (some ⟨bo, 0, none⟩) 4 4) (leL n os 0) from
    ⟨⟨by rw [leL_0]; simp, .inr ⟨bo, 4, cs, by rw [leL_len], by omega, K0.out, by rw [leL_len]; exact Nat.le_refl _, by unfold maxLen; omega, by rw [← Array.length_toList, hcs, flatMap_len gI 1 (fun _ => rfl)]; simp, by rw [leL_0, hcs, List.take_of_length_le]; rw [flatMap_len gI 1 (fun _ => rfl)]; simp⟩⟩, bnew (bnil w) _⟩)
  rw [hbo] at hmk
  clear hcs hbo K0
  go_wp2_with fail
  rw [HR.out]
  generalize World.alloc w (.cells cs 3) = w1 at *
  clear hmk
  go_loopw [7, 8] (fun tv i wr => ∃ t : Nat, t ≤ n ∧ i = .int .i64 t ∧ tv = .int .i64 (leT n os t : Int) ∧ Hid (Ow w wr 3 1 gI (.slice (some ⟨bo, 0, none⟩) 4 4) (leL n os t))) (fun _ i _ => n - (intOf i).toNat)
  case atStart => exact ⟨0, Nat.zero_le _, rfl, rfl, O0⟩
  case round =>
    clear O0
    obtain ⟨t, ht, rfl, rfl, HO⟩ := hrel
    obtain ⟨tp1, tp2⟩ := leT_pos n os t
    by_cases htn : t < n
    · have i1 : (t : Int) < (n : Int) := by omega
      have i4 : (t : Int) < 4 := by omega
      have hK := leK_lt n os t
      have HN := hid (show leT n os (t + 1) = leT n os t + leK n os t from rfl)
      obtain ⟨b', cur, hA, hq4, hb, hk, hss, hc, htk⟩ := HO.out.row (by rw [leL_len]; decide)
      clear hq4
      injection hA with hA; injection hA with hA; subst hA
      have f0 : wr.frozen? ⟨bo, t, none⟩ = false := hk.frozen t
      have c0 : wr.cell? ⟨bo, t, none⟩ = some (.int .i64 0) := by
        obtain ⟨ad, x, hx, hx2, hx3⟩ := Sl.ati HO.out.sl (k := t) (by omega)
        injection hx with hx; subst hx
        rw [ad_at] at hx3
        rw [hx3]
        unfold leL at hx2
        rw [List.getElem?_map, List.getElem?_range (by omega)] at hx2
        simp at hx2
        rw [← hx2]
      have ltb := World.block_lt_of_cell? wr _ c0
      obtain ⟨TT, hTT⟩ : ∃ TT, leT n os t = TT := ⟨_, rfl⟩
      rw [hTT] at tp1 tp2 HN ⊢
      clear hk hss hc htk hb hTT
      by_cases htr : t < r
      · have i2 : (t : Int) < (r : Int) := by omega
        obtain ⟨ad, x, rfl, hx, cx⟩ := (HDD.out.below HO.out.below).ati htr
        obtain ⟨x0, x1⟩ := HOS.out x (List.mem_of_getElem? hx)
        have hkx : leK n os t = pk x 2 := by unfold leK; rw [if_pos htn, hx]
        obtain ⟨G, hG⟩ : ∃ G, leK n os t = G := ⟨_, rfl⟩
        have HG := hid hG
        have HGX := hid (show pk x 2 = G by rw [← hG, hkx])
        have hG2 : G < 2 := by omega
        clear hx hkx hG hK
        go_wp2_with fail
        refine (picked x 2 wr (by decide) x0 x1 (by decide)).mono ?_
        rintro e w' ⟨rfl, rfl⟩
        rw [HGX.out]
        have O2 := hid (HO.out.set (f := fun x : Int => .int .i64 x) (i := t) (by rw [leL_len]; omega) (G : Int))
        rw [← HG.out, leL_set (by omega), HG.out] at O2
        go_wp2_with fail
        go_roundw
        case rel => exact ⟨t + 1, by omega, by go_num, (by rw [HN.out, HG.out]; go_num), O2⟩
        case measure => simp [intOf]; omega
      · have i2 : ¬ (t : Int) < (r : Int) := by omega
        have hz : leK n os t = 0 := by unfold leK; rw [if_pos htn, List.getElem?_eq_none (by rw [HRL.out]; omega)]
        have HO2 := hid (show Ow w wr 3 1 gI (.slice (some ⟨bo, 0, none⟩) 4 4) (leL n os (t + 1)) by rw [leL_skip hz]; exact HO.out)
        rw [hz, Nat.add_zero] at HN
        clear hK hz
        go_wp2_with fail
        go_roundw
        case rel => exact ⟨t + 1, by omega, by go_num, (by rw [HN.out]; first | rfl | go_num), HO2⟩
        case measure => simp [intOf]; omega
    · obtain rfl : t = n := by omega
      have i1 : ¬ (t : Int) < (t : Int) := by omega
      obtain ⟨n, hnt⟩ : ∃ n, n = t := ⟨_, rfl⟩
      subst hnt
      have HSO := hid (show Sl wr 1 (some ⟨bo, 0, none⟩) 4 (ints ((List.range 4).map fun t => ((leF [leK n os 0, leK n os 1, leK n os 2, leK n os 3] t : Nat) : Int))) by rw [← leL_all h4]; exact HO.out.sl)
      have BO := hid HO.out.below
      have HTN := hid (leT_n (l := os) h1 h4)
      have q0 := leK_lt n os 0; have q1 := leK_lt n os 1; have q2 := leK_lt n os 2; have q3 := leK_lt n os 3
      have HZ := hid (show (n ≤ 1 → leK n os 1 = 0) ∧ (n ≤ 2 → leK n os 2 = 0) ∧ (n ≤ 3 → leK n os 3 = 0) from ⟨fun h => by unfold leK; rw [if_neg (by omega)], fun h => by unfold leK; rw [if_neg (by omega)], fun h => by unfold leK; rw [if_neg (by omega)]⟩)
      generalize leK n os 0 = k0 at *
      generalize leK n os 1 = k1 at *
      generalize leK n os 2 = k2 at *
      generalize leK n os 3 = k3 at *
      obtain ⟨TT, hTT⟩ : ∃ TT, leT n os n = TT := ⟨_, rfl⟩
      rw [hTT] at tp1 tp2 HTN ⊢
      have hF6 : ∀ t, t < n → leF [k0, k1, k2, k3] t ≤ 6 := fun t ht => by
        rcases (show t = 0 ∨ t = 1 ∨ t = 2 ∨ t = 3 by omega) with rfl | rfl | rfl | rfl
        · show k0 ≤ 6; omega
        · show k1 ≤ 6; omega
        · show k2 ≤ 6; omega
        · show k3 ≤ 6; omega
      have HF6 := hid hF6
      clear HO hTT hF6 ht htn
      go_wp2_with fail
      refine (lock_machine n (some ⟨bo, 0, none⟩) 4 0 (leF [k0, k1, k2, k3]) wr h1 h4 (by decide) HF6.out HSO.out (HT.out.below BO.out)).mono ?_
      rintro e w2 hp2
      obtain ⟨AW, cW, Cb, T, cv1, tv, av, rfl, hW2, hM, b2⟩ := hp2
      have HM := hid hM; have B2 := hid (bgo BO.out b2); have HW := hid hW2
      clear hM b2 hW2 HSO BO
      obtain ⟨X, hX⟩ : ∃ X, w2.heap.size = X := ⟨_, rfl⟩
      go_upto_region 11 with fail
      have HX0 := hid (blkN w2 34 #[.slice AW (2 * n) cW, .slice (some ⟨Cb, 0, none⟩) 3 3, .slice (some ⟨T, 0, none⟩) n n] X hX)
      have BA := hid (bgo B2.out (bnew (bnil w2) (.cells #[.slice AW (2 * n) cW, .slice (some ⟨Cb, 0, none⟩) 3 3, .slice (some ⟨T, 0, none⟩) n n] 34)))
      have HMN := hid (HM.out.below (bnew (bnil w2) (.cells #[.slice AW (2 * n) cW, .slice (some ⟨Cb, 0, none⟩) 3 3, .slice (some ⟨T, 0, none⟩) n n] 34)))
      have HMA := hid (lmach_at HMN.out h1 h4 (by decide) HF6.out)
      have HWA := hid (own_below HW.out (bnew (bnil w2) (.cells #[.slice AW (2 * n) cW, .slice (some ⟨Cb, 0, none⟩) 3 3, .slice (some ⟨T, 0, none⟩) n n] 34)))
      try rw [hX]
      generalize World.alloc w2 _ = wA at *
      clear hX HM HW HMN HF6
      obtain ⟨K2, hK2⟩ : ∃ K2, 300 * TT = K2 := ⟨_, rfl⟩
      have HK2 := hid hK2
      have ek2 : 300 * (TT : Int) = (K2 : Int) := by rw [← hK2]; omega
      have hK2b : K2 ≤ 1500 := by omega
      clear hK2
      go_wp2_with fail
      go_loopw [11, 12] (fun v o wr => ∃ (i N : Nat) (As : Option Addr) (cs : Nat), i ≤ K2 ∧ o = .int .i64 i ∧ v = .slice As N cs ∧ Hid (N = n * i) ∧ N ≤ cs ∧ Hid (Ow wA wr 3 1 gI (.slice As N cs) (nats (rrS n i)))) (fun _ o _ => K2 - (intOf o).toNat)
      case atStart => exact ⟨0, 0, none, 0, Nat.zero_le _, rfl, rfl, hid (by simp), Nat.le_refl _, hid (Ow.nil _ _ _ _)⟩
      case round =>
        obtain ⟨i, N, As, cs, hi, rfl, rfl, HNE, hcs, HO⟩ := hrel
        have hNi : n * i ≤ 4 * 1500 := Nat.mul_le_mul h4 (by omega)
        by_cases hlt : i < K2
        · have j1 : (i : Int) < (K2 : Int) := by omega
          have hNi2 : n * (i + 1) ≤ 4 * 1500 := Nat.mul_le_mul h4 (by omega)
          have HNI2 := hid hNi2
          clear hNi2
          go_wp2_with fail
          go_loopw [11, 13] (fun v o wx => ∃ (t N : Nat) (As : Option Addr) (cs : Nat), t ≤ n ∧ o = .int .i64 t ∧ v = .slice As N cs ∧ Hid (N = n * i + t) ∧ N ≤ cs ∧ Hid (Ow wA wx 3 1 gI (.slice As N cs) (nats (rrS n i ++ List.range t)))) (fun _ o _ => n - (intOf o).toNat)
          case atStart => exact ⟨0, N, As, cs, Nat.zero_le _, rfl, rfl, hid (by have := HNE.out; omega), hcs, (by rw [show rrS n i ++ List.range 0 = rrS n i from List.append_nil _]; exact HO)⟩
          case round =>
            clear HO HNE hcs
            obtain ⟨t, N, As, cs, ht, rfl, rfl, HNE, hcs, HO⟩ := hrel
            by_cases hi2 : t < n
            · have j2 : (t : Int) < (n : Int) := by omega
              obtain ⟨y, hy⟩ : ∃ y, nats (rrS n i ++ List.range t) ++ [(t : Int)] = y := ⟨_, rfl⟩
              have HYE := hid (show y = nats (rrS n i ++ List.range (t + 1)) by rw [← hy, List.range_succ]; unfold nats; rw [← List.append_assoc, List.map_append (l₁ := rrS n i ++ List.range t)]; rfl)
              have HY := hid hy
              have HYN := hid (show y.length = N + 1 by rw [← hy, List.length_append, List.length_map]; rw [List.length_append, List.length_range, rrS_len, HNE.out]; rfl)
              have hNb : N ≤ 6000 := by have := HNE.out; have h := HNI2.out; rw [Nat.mul_succ] at h; omega
              clear hy
              go_wp2_with (at_builtin; refine wpList_appY elmI gI_one rfl (.tmp 62) (.tmp 64) rfl (.slice As N cs) _ rfl (HO.out.alloc _) [(t : Int)] y HY rfl (Sl.fresh wr #[_] 3 1 1 rfl) (by go_num) (by rw [HYN.out]; simp only [maxLen]; omega) (by rw [HYN.out]; omega) ?_; intro A4 c4 w4 hc4 hc5 HN4 HG4 HB4)
              go_roundw
              case rel => exact ⟨t + 1, N + 1, A4, c4, by omega, by go_num, by rw [HYN.out], hid (by have := HNE.out; omega), by rw [HYN.out] at hc4; exact hc4, hid (by have h1 := HN4.out; rw [HYN.out] at h1; rw [← HYE.out]; exact h1)⟩
              case measure => simp [intOf]; omega
            · obtain rfl : t = n := by omega
              have j2 : ¬ (t : Int) < (t : Int) := by omega
              go_wp2_with fail
              go_roundw
              case rel => exact ⟨i + 1, N, As, cs, by omega, by go_num, rfl, hid (by have := HNE.out; rw [Nat.mul_succ]; omega), hcs, HO⟩
              case measure => simp [intOf]; omega
        · obtain rfl : i = K2 := by omega
          have j1 : ¬ (i : Int) < (i : Int) := by omega
          have BS := hid HO.out.below
          have y0 : wr.cell? ⟨X, 0, none⟩ = some (.slice AW (2 * n) cW) := (HX0.out.below' BS.out).cell 0
          have y1 : wr.cell? ⟨X, 1, none⟩ = some (.slice (some ⟨Cb, 0, none⟩) 3 3) := (HX0.out.below' BS.out).cell 1
          have y2 : wr.cell? ⟨X, 2, none⟩ = some (.slice (some ⟨T, 0, none⟩) n n) := (HX0.out.below' BS.out).cell 2
          have HTR := hid (HT.out.below (bgo BA.out BS.out))
          have HMR := hid (HMA.out.below BS.out)
          have HWR := hid (show Sl wr 1 AW (2 * n) (ints (List.replicate (2 * n) (0 : Int))) from Sl.own (own_below HWA.out BS.out))
          have HSR := hid (show Sl wr 1 As N (ints ((rrS n i : List Nat).map fun x : Nat => (x : Int))) from HO.out.sl)
          have HLT := hid (rrS_lt n i)
          have hbe := lock_ends (tot := TT) h1 h4 q0 q1 q2 q3 HZ.out.1 HZ.out.2.1 HZ.out.2.2 tp1
          rw [HK2.out] at hbe
          have HBE := hid hbe
          have hNb : N ≤ 6000 := by have := HNE.out; omega
          clear hbe
          go_wp2_with fail
          refine (ran_of AW (some ⟨Cb, 0, none⟩) (some ⟨T, 0, none⟩) As (2 * n) cW 3 3 n n N cs (lmach n (leF [k0, k1, k2, k3]) 0) (rrS n i) wr (by omega) (by decide) (by omega) hNb hcs HTR.out HMR.out HWR.out HSR.out HLT.out HBE.out.1 (play_fin _ _)).mono ?_
          rintro e w5 hp3
          obtain ⟨v3, rs, rfl, hrow, hrs, htold, b3⟩ := hp3
          obtain ⟨A3, c3, rfl, hc3, hc3'⟩ := own_form hrow
          obtain ⟨LD, hLD⟩ : ∃ LD, rs.length = LD := ⟨_, rfl⟩
          rw [hLD] at hrow hc3 ⊢
          have HD := hid (DsAt.mk hLD hrow htold)
          have HEA := hid HBE.out.2.2
          rw [← hrs] at HEA
          have hld : LD = 2 * (k0 + k1 + k2 + k3) := by have h := congrArg List.length hrs; rw [List.length_map, hLD] at h; exact h.trans HBE.out.2.1
          have ett : 2 * ((TT : Int) - 1) = (LD : Int) := by have := HTN.out; omega
          have hldb : LD ≤ 8 := by omega
          have B5 := hid (bgo (bgo BA.out BS.out) b3)
          clear hrow htold hrs b3 hLD y0 y1 y2 HX0 HTR HMR HWR HSR HLT HBE HO hld HTN BS HMA HWA BA
          unfold maxLen at hc3'
          go_wp2_with fail
          go_loopw [16, 17] (fun ev kk wz => ∃ (k : Nat), k ≤ LD ∧ kk = .int .i64 k ∧ ev = .int .i64 k ∧ Hid (Below w5.heap.size w5 wz)) (fun _ kk _ => LD - (intOf kk).toNat)
          case atStart => exact ⟨0, Nat.zero_le _, rfl, rfl, hid (bnil _)⟩
          case round =>
            obtain ⟨k, hk, rfl, rfl, BZ⟩ := hrel
            by_cases hlt2 : k < LD
            · have j2 : (k : Int) < (LD : Int) := by omega
              obtain ⟨b9, d2, At, ct, rfl, hd2, lt9, u0, u1, u2, u3, u4, ut⟩ := (HD.out.below BZ.out).at_ hlt2
              have hea := HEA.out d2 (List.mem_of_getElem? hd2)
              clear hd2 ut
              cases he : d2.e with
              | none => exact absurd he hea
              | some e2 =>
                have e1 : eI d2.e = (e2 : Int) := by rw [he]; rfl
                rw [e1] at u1
                have en : ¬ ((e2 : Int) = -1) := by omega
                clear e1 he hea
                go_wp2_with fail
                go_roundw
                case rel => exact ⟨k + 1, by omega, by go_num, by go_num, BZ⟩
                case measure => simp [intOf]; omega
            · obtain rfl : k = LD := by omega
              have j2 : ¬ (k : Int) < (k : Int) := by omega
              go_wp2_with fail
              all_goals
                go_ret
                exact ⟨rfl, bgo B5.out BZ.out⟩
end Go.Proofs.YtiinnkdhccgelaaDoor
