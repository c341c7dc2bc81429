/-
  VmRenamed: its walk.
-/
import Derived.Test.YtljdnbdmfhcmpaaDoorVmWords
namespace Go.Proofs.YtljdnbdmfhcmpaaDoor
open Go.RowKit
set_option linter.unusedVariables false
theorem rn_sh (n : Nat) (k : Int) (hk : 0 ≤ k ∧ k < 4) (o : Op5) (h : OpSh n o) (hi : OpIn o) : OpSh n (rn k o) := by
  obtain ⟨q, a, b, c, d⟩ := o
  obtain ⟨h1, h2, h3, h4, h5⟩ := h
  obtain ⟨i1, i2, i3, i4, i5, i6⟩ := hi
  simp only at h1 h2 h3 h4 h5 i1 i2 i3 i4 i5 i6
  have R : ∀ x : Int, 0 ≤ x → x < 4 → 0 ≤ nmR k x ∧ nmR k x < 4 := fun x x0 x4 => ⟨(nmR_in hk x0 x4).1, (nmR_in hk x0 x4).2.1⟩
  refine ⟨h1, ?_, ?_, ?_, ?_⟩
  · show (q ≠ 10 ∧ q ≠ 17 ∧ 0 ≤ (if q ≠ 10 ∧ q ≠ 17 then nmR k a else a) ∧ (if q ≠ 10 ∧ q ≠ 17 then nmR k a else a) < 24) ∨ (q = 10 ∧ 0 ≤ (if q ≠ 10 ∧ q ≠ 17 then nmR k a else a) ∧ (if q ≠ 10 ∧ q ≠ 17 then nmR k a else a) ≤ (n : Int)) ∨ (q = 17 ∧ (if q ≠ 10 ∧ q ≠ 17 then nmR k a else a) = 0)
    by_cases hq : q ≠ 10 ∧ q ≠ 17
    · rw [if_pos hq]
      have := i2 hq.1 hq.2
      have := R a this.1 this.2
      left; exact ⟨hq.1, hq.2, this.1, by omega⟩
    · rw [if_neg hq]
      exact h2
  · show (((2 ≤ q ∧ q ≤ 9) ∨ (13 ≤ q ∧ q ≤ 15)) ∧ 0 ≤ (if 2 ≤ q ∧ q ≤ 9 then nmR k b else b) ∧ (if 2 ≤ q ∧ q ≤ 9 then nmR k b else b) < 24) ∨ ((q = 11 ∨ q = 12) ∧ 0 ≤ (if 2 ≤ q ∧ q ≤ 9 then nmR k b else b) ∧ (if 2 ≤ q ∧ q ≤ 9 then nmR k b else b) ≤ (n : Int)) ∨ ((q = 10 ∨ q = 16 ∨ q = 17) ∧ (if 2 ≤ q ∧ q ≤ 9 then nmR k b else b) = 0) ∨ q = 1
    by_cases hq : 2 ≤ q ∧ q ≤ 9
    · rw [if_pos hq]
      have := i3 hq
      have := R b this.1 this.2
      left; exact ⟨.inl hq, this.1, by omega⟩
    · rw [if_neg hq]
      exact h3
  · show (3 ≤ q ∧ q ≤ 9 ∧ 0 ≤ (if 3 ≤ q ∧ q ≤ 9 then nmR k c else c) ∧ (if 3 ≤ q ∧ q ≤ 9 then nmR k c else c) < 24) ∨ ((q ≤ 2 ∨ (10 ≤ q ∧ q ≤ 12) ∨ q = 16 ∨ q = 17) ∧ (if 3 ≤ q ∧ q ≤ 9 then nmR k c else c) = 0) ∨ (13 ≤ q ∧ q ≤ 15)
    by_cases hq : 3 ≤ q ∧ q ≤ 9
    · rw [if_pos hq]
      have := i4 hq
      have := R c this.1 this.2
      left; exact ⟨hq.1, hq.2, this.1, by omega⟩
    · rw [if_neg hq]
      exact h4
  · show (q = 15 ∧ 0 ≤ (if q = 15 then nmR k d else d) ∧ (if q = 15 then nmR k d else d) < 24) ∨ (q ≠ 15 ∧ (if q = 15 then nmR k d else d) = 0)
    by_cases hq : q = 15
    · rw [if_pos hq]
      have := i6 hq
      have := R d this.1 this.2
      left; exact ⟨hq, this.1, by omega⟩
    · rw [if_neg hq]
      exact h5
theorem vbegin_ren (k : Int) (hk : 0 ≤ k ∧ k < 4) (n : Nat) : ThR k (vbegin n []) (vbegin n []) := by
  have hz : ∀ i : Int, vget (vbegin n []).regs i = 0 := by
    intro i
    unfold vbegin vget
    rw [List.getD_eq_getElem?_getD]
    simp only [List.nil_append, List.getElem?_replicate]
    split <;> rfl
  exact ⟨⟨rfl, rfl, fun i _ _ => by rw [hz, hz], by rw [hz]⟩, rfl, rfl, rfl, rfl⟩
theorem vres_ren (k : Int) (hk : 0 ≤ k ∧ k < 4) (code : List Op5) (hc : CodeD code) (ws : List Int) (L : Nat) :
    (vres (code.map (rn k)) [] ws L).1.told = (vres code [] ws L).1.told ∧ (vres (code.map (rn k)) [] ws L).2 = (vres code [] ws L).2 ∧ verr (vres (code.map (rn k)) [] ws L).1 = verr (vres code [] ws L).1 ∧
    vcount (code.map (rn k)) L (vbegin (code.map (rn k)).length [], ws) = vcount code L (vbegin code.length [], ws) := by
  obtain ⟨h1, h2, h3⟩ := vrun_ren k hk code hc.opin L (vbegin code.length []) (vbegin code.length []) ws (vbegin_ren k hk code.length)
  unfold vres
  rw [List.length_map]
  exact ⟨h1.told, h2, by unfold verr; rw [h1.over, h1.err], h3⟩
theorem name_walk (b : Nat) (i : Int) (K : Int) (w : World) (hK : 0 ≤ K ∧ K < 4) (hi : 0 ≤ i ∧ i < 24) (hc : w.cell? ⟨b, 0, none⟩ = some (.int .i64 K)) :
    Calls Tryd.prog 16 #[.int .i64 i, .pointer (some ⟨b, 0, none⟩)] w fun e w' => e = .returned (.int .i64 (nmR K i)) ∧ w' = w := by
  by_cases h4 : i < 4
  · have e : nmR K i = (i + K) % 4 := by unfold nmR; rw [if_pos h4, Int.tmod_eq_emod_of_nonneg (by omega)]
    rw [e]
    go_enter Tryd.func16, Tryd.ntmps16
    go_wp2
    go_ret
    exact ⟨rfl, rfl⟩
  · have e : nmR K i = i := by unfold nmR; rw [if_neg h4]
    rw [e]
    go_enter Tryd.func16, Tryd.ntmps16
    go_wp2
    go_ret
    exact ⟨rfl, rfl⟩
set_option maxHeartbeats 8000000 in
set_option maxRecDepth 100000 in
theorem law_vmRenamed (A : Option Addr) (n c : Nat) (ls : List Op5) (D : Option Addr) (r s : Nat) (ds : List Int) (a b : Int) (w : World)
    (hn : n ≤ c) (hc : c ≤ maxLen) (_ : c * 40 ≤ 140737488351232) (hA : Sl w 5 A n (ls.flatMap gO)) (hls : ∀ x ∈ ls, LineOk x)
    (hr : r ≤ s) (hs : s ≤ maxLen) (_ : s * 8 ≤ 140737488351232) (hD : Sl w 1 D r (ints ds)) (hds : ∀ x ∈ ds, -9223372036854775808 ≤ x ∧ x ≤ 9223372036854775807)
    (ha : -9223372036854775808 ≤ a) (ha1 : a ≤ 9223372036854775807) (hb : -9223372036854775808 ≤ b) (hb1 : b ≤ 9223372036854775807) (hT : STab w) :
    Calls Tryd.prog 5 #[.slice A n c, .slice D r s, .int .i64 a, .int .i64 b] w fun e w' => e = .returned (.bool true) ∧ Below w.heap.size w w' := by
  have HA := hid (Lines.mk hA hls); have HD := hid hD; have HT := hid hT
  have HDL := hid hD.leni
  clear hA hls hD hds hT
  have HS := hid hs; clear hs
  have hx0 := Int.emod_nonneg a (show (4 : Int) ≠ 0 by decide)
  have hx1 := Int.emod_lt_of_pos a (show (0 : Int) < 4 by decide)
  have hy0 := Int.emod_nonneg b (show (600 : Int) ≠ 0 by decide)
  have hy1 := Int.emod_lt_of_pos b (show (0 : Int) < 600 by decide)
  obtain ⟨K, hK⟩ : ∃ K : Int, a % 4 = K := ⟨_, rfl⟩
  obtain ⟨X, hX⟩ : ∃ X : Nat, b % 600 = (X : Int) := ⟨(b % 600).toNat, by omega⟩
  have hKl : 0 ≤ K ∧ K < 4 := by omega
  have hXl : X < 600 := by omega
  have HK := hid hK; have HX := hid hX; have HKL := hid hKl
  clear hx0 hx1 hy0 hy1 hK hX hKl
  go_enter Tryd.func5, Tryd.ntmps5
  go_wp2_with fail
  refine (code_of A n c 40 ls w hn hc (by decide) HA.out).mono ?_
  rintro e w1 ⟨v, rfl, ho⟩
  obtain ⟨Ac, cc, rfl, hcc, _⟩ := ho.form
  have HC := hid (CodeAt.of ho)
  have HCD := hid (codeOf_d ls 40)
  have B1 := hid ho.below
  have hcl : (codeOf ls 40).length ≤ 40 := by rw [codeOf_len]; omega
  clear ho
  generalize codeOf ls 40 = code at *
  obtain ⟨nc, hnc⟩ : ∃ nc, code.length = nc := ⟨_, rfl⟩
  rw [hnc] at HC hcc hcl ⊢
  have HNC := hid hnc; clear hnc
  go_wp2_with fail
  refine (picked0 a 4 _ (by decide) ha ha1 (by decide)).mono ?_
  rintro e w9 ⟨rfl, rfl⟩
  rw [HK.out]
  go_upto_block 0 with fail
  obtain ⟨w0, hw0⟩ : ∃ w0, w1.alloc (.cells #[.int .i64 K] 3) = w0 := ⟨_, rfl⟩
  obtain ⟨kb, hkb⟩ : ∃ kb, w1.heap.size = kb := ⟨_, rfl⟩
  have HKC := hid (show w0.cell? ⟨kb, 0, none⟩ = some (.int .i64 K) by rw [← hw0, ← hkb, (Blk.new w1 3 #[.int .i64 K]).cell 0]; rfl)
  have B0 := hid (show Below w1.heap.size w1 w0 by rw [← hw0]; exact bnew (bnil w1) _)
  have HC0 := hid (HC.out.below B0.out)
  rw [hw0, hkb]
  have HKB := hid hkb
  clear hw0 hkb
  go_cut [12] (fun v wr => ∃ (A1 : Option Addr) (c1 : Nat), v = .slice A1 nc c1 ∧ Hid (Ow w0 wr 35 5 gO (.slice A1 nc c1) (code.map (rn K))))
  case first =>
    go_wp2_with fail
    go_loopw [12, 13] (fun v i wr => ∃ (k : Nat) (A1 : Option Addr) (c1 : Nat), k ≤ nc ∧ i = .int .i64 k ∧ v = .slice A1 k c1 ∧ Hid (Ow w0 wr 35 5 gO (.slice A1 k c1) ((code.take k).map (rn K)))) (fun _ i _ => nc - (intOf i).toNat)
    case atStart => exact ⟨0, none, 0, Nat.zero_le _, rfl, rfl, hid (Ow.nil _ _ _ _)⟩
    case round =>
      obtain ⟨k, A1, c1, hk, rfl, rfl, HO⟩ := hrel
      by_cases hlt : k < nc
      · have i1 : (k : Int) < (nc : Int) := by omega
        obtain ⟨ad, o, rfl, hx, d1, d2, d3, d4, d5⟩ := (HC0.out.below HO.out.below).sl.opAt hlt
        have kc : wr.cell? ⟨kb, 0, none⟩ = some (.int .i64 K) := cell_below HO.out.below HKC.out
        have kl : kb < wr.heap.size := World.block_lt_of_cell? wr _ kc
        obtain ⟨hkk, qa, qb, qc, qw, qd⟩ := HCD.out.opin o (List.mem_of_getElem? hx)
        obtain ⟨ok, oa, ob, oc, od⟩ := o
        simp only at d1 d2 d3 d4 d5 hkk qa qb qc qw qd
        have HY := hid (show (code.take (k + 1)).map (rn K) = (code.take k).map (rn K) ++ [rn K ⟨ok, oa, ob, oc, od⟩] by rw [take_next hx, List.map_append]; rfl)
        have HYL := hid (show ((code.take k).map (rn K)).length = k by rw [List.length_map, List.length_take, HNC.out]; omega)
        clear hx qw
        generalize hlk : (code.take k).map (rn K) = lk at *
        clear hlk
        obtain ⟨y, hy⟩ : ∃ y, lk ++ [rn K ⟨ok, oa, ob, oc, od⟩] = y := ⟨_, rfl⟩
        have hyl : y.length = k + 1 := by rw [← hy, List.length_append, HYL.out]; rfl
        rw [hy] at HY
        have HYN := hid hyl
        clear hyl
        by_cases h10 : ok = 10
        · subst h10
          clear qa qb qc qd hkk
          have E : rn K ⟨10, oa, ob, oc, od⟩ = ⟨10, oa, ob, oc, od⟩ := by
            rfl
          rw [E] at hy
          have HYY := hid hy
          clear hy E
          go_wp2_with (at_builtin; refine wpList_appY elmO gO_one rfl (.tmp 87) (.tmp 89) rfl (.slice A1 k c1) lk rfl ((HO.out.alloc _).alloc _) [⟨10, oa, ob, oc, od⟩] y HYY rfl (Sl.fresh' _ #[_, _, _, _, _] 35 5 1 _ (by simp) rfl) rfl (by rw [HYN.out]; simp only [maxLen]; omega) (by rw [HYN.out]; omega) ?_; intro A4 c4 w4 hc4 hc5 HN1 _ _)
          go_roundw
          case rel => exact ⟨k + 1, A4, c4, by omega, by go_num, by rw [HYN.out], hid (by have hn1 := HN1.out; rw [HYN.out] at hn1; rw [HY.out]; exact hn1)⟩
          case measure => simp [intOf]; omega
        by_cases h17 : ok = 17
        · subst h17
          clear qa qb qc qd hkk
          have E : rn K ⟨17, oa, ob, oc, od⟩ = ⟨17, oa, ob, oc, od⟩ := by
            rfl
          rw [E] at hy
          have HYY := hid hy
          clear hy E
          go_wp2_with (at_builtin; refine wpList_appY elmO gO_one rfl (.tmp 87) (.tmp 89) rfl (.slice A1 k c1) lk rfl ((HO.out.alloc _).alloc _) [⟨17, oa, ob, oc, od⟩] y HYY rfl (Sl.fresh' _ #[_, _, _, _, _] 35 5 1 _ (by simp) rfl) rfl (by rw [HYN.out]; simp only [maxLen]; omega) (by rw [HYN.out]; omega) ?_; intro A4 c4 w4 hc4 hc5 HN1 _ _)
          go_roundw
          case rel => exact ⟨k + 1, A4, c4, by omega, by go_num, by rw [HYN.out], hid (by have hn1 := HN1.out; rw [HYN.out] at hn1; rw [HY.out]; exact hn1)⟩
          case measure => simp [intOf]; omega
        have ra := qa h10 h17
        clear qa
        by_cases h2 : ok = 2
        · subst h2
          have rb := qb (by decide)
          clear qb qc qd hkk h10 h17
          have E : rn K ⟨2, oa, ob, oc, od⟩ = ⟨2, nmR K oa, nmR K ob, oc, od⟩ := by
            rfl
          rw [E] at hy
          have HYY := hid hy
          clear hy E
          go_wp2_with fail
          refine (name_walk kb oa K _ HKL.out (by omega) (cell_below (bnew (bnil wr) _) kc)).mono ?_
          rintro e w9 ⟨rfl, rfl⟩
          go_wp2_with fail
          refine (name_walk kb ob K _ HKL.out (by omega) (cell_below (bnew (bnil wr) _) kc)).mono ?_
          rintro e w9 ⟨rfl, rfl⟩
          go_wp2_with (at_builtin; refine wpList_appY elmO gO_one rfl (.tmp 87) (.tmp 89) rfl (.slice A1 k c1) lk rfl ((HO.out.alloc _).alloc _) [⟨2, nmR K oa, nmR K ob, oc, od⟩] y HYY rfl (Sl.fresh' _ #[_, _, _, _, _] 35 5 1 _ (by simp) rfl) rfl (by rw [HYN.out]; simp only [maxLen]; omega) (by rw [HYN.out]; omega) ?_; intro A4 c4 w4 hc4 hc5 HN1 _ _)
          go_roundw
          case rel => exact ⟨k + 1, A4, c4, by omega, by go_num, by rw [HYN.out], hid (by have hn1 := HN1.out; rw [HYN.out] at hn1; rw [HY.out]; exact hn1)⟩
          case measure => simp [intOf]; omega
        by_cases h3 : ok = 3
        · subst h3
          have rb := qb (by decide)
          have rc := qc (by decide)
          clear qb qc qd hkk h10 h17 h2
          have E : rn K ⟨3, oa, ob, oc, od⟩ = ⟨3, nmR K oa, nmR K ob, nmR K oc, od⟩ := by
            rfl
          rw [E] at hy
          have HYY := hid hy
          clear hy E
          go_wp2_with fail
          refine (name_walk kb oa K _ HKL.out (by omega) (cell_below (bnew (bnil wr) _) kc)).mono ?_
          rintro e w9 ⟨rfl, rfl⟩
          go_wp2_with fail
          refine (name_walk kb ob K _ HKL.out (by omega) (cell_below (bnew (bnil wr) _) kc)).mono ?_
          rintro e w9 ⟨rfl, rfl⟩
          go_wp2_with fail
          refine (name_walk kb oc K _ HKL.out (by omega) (cell_below (bnew (bnil wr) _) kc)).mono ?_
          rintro e w9 ⟨rfl, rfl⟩
          go_wp2_with (at_builtin; refine wpList_appY elmO gO_one rfl (.tmp 87) (.tmp 89) rfl (.slice A1 k c1) lk rfl ((HO.out.alloc _).alloc _) [⟨3, nmR K oa, nmR K ob, nmR K oc, od⟩] y HYY rfl (Sl.fresh' _ #[_, _, _, _, _] 35 5 1 _ (by simp) rfl) rfl (by rw [HYN.out]; simp only [maxLen]; omega) (by rw [HYN.out]; omega) ?_; intro A4 c4 w4 hc4 hc5 HN1 _ _)
          go_roundw
          case rel => exact ⟨k + 1, A4, c4, by omega, by go_num, by rw [HYN.out], hid (by have hn1 := HN1.out; rw [HYN.out] at hn1; rw [HY.out]; exact hn1)⟩
          case measure => simp [intOf]; omega
        by_cases h4 : ok = 4
        · subst h4
          have rb := qb (by decide)
          have rc := qc (by decide)
          clear qb qc qd hkk h10 h17 h2 h3
          have E : rn K ⟨4, oa, ob, oc, od⟩ = ⟨4, nmR K oa, nmR K ob, nmR K oc, od⟩ := by
            rfl
          rw [E] at hy
          have HYY := hid hy
          clear hy E
          go_wp2_with fail
          refine (name_walk kb oa K _ HKL.out (by omega) (cell_below (bnew (bnil wr) _) kc)).mono ?_
          rintro e w9 ⟨rfl, rfl⟩
          go_wp2_with fail
          refine (name_walk kb ob K _ HKL.out (by omega) (cell_below (bnew (bnil wr) _) kc)).mono ?_
          rintro e w9 ⟨rfl, rfl⟩
          go_wp2_with fail
          refine (name_walk kb oc K _ HKL.out (by omega) (cell_below (bnew (bnil wr) _) kc)).mono ?_
          rintro e w9 ⟨rfl, rfl⟩
          go_wp2_with (at_builtin; refine wpList_appY elmO gO_one rfl (.tmp 87) (.tmp 89) rfl (.slice A1 k c1) lk rfl ((HO.out.alloc _).alloc _) [⟨4, nmR K oa, nmR K ob, nmR K oc, od⟩] y HYY rfl (Sl.fresh' _ #[_, _, _, _, _] 35 5 1 _ (by simp) rfl) rfl (by rw [HYN.out]; simp only [maxLen]; omega) (by rw [HYN.out]; omega) ?_; intro A4 c4 w4 hc4 hc5 HN1 _ _)
          go_roundw
          case rel => exact ⟨k + 1, A4, c4, by omega, by go_num, by rw [HYN.out], hid (by have hn1 := HN1.out; rw [HYN.out] at hn1; rw [HY.out]; exact hn1)⟩
          case measure => simp [intOf]; omega
        by_cases h5 : ok = 5
        · subst h5
          have rb := qb (by decide)
          have rc := qc (by decide)
          clear qb qc qd hkk h10 h17 h2 h3 h4
          have E : rn K ⟨5, oa, ob, oc, od⟩ = ⟨5, nmR K oa, nmR K ob, nmR K oc, od⟩ := by
            rfl
          rw [E] at hy
          have HYY := hid hy
          clear hy E
          go_wp2_with fail
          refine (name_walk kb oa K _ HKL.out (by omega) (cell_below (bnew (bnil wr) _) kc)).mono ?_
          rintro e w9 ⟨rfl, rfl⟩
          go_wp2_with fail
          refine (name_walk kb ob K _ HKL.out (by omega) (cell_below (bnew (bnil wr) _) kc)).mono ?_
          rintro e w9 ⟨rfl, rfl⟩
          go_wp2_with fail
          refine (name_walk kb oc K _ HKL.out (by omega) (cell_below (bnew (bnil wr) _) kc)).mono ?_
          rintro e w9 ⟨rfl, rfl⟩
          go_wp2_with (at_builtin; refine wpList_appY elmO gO_one rfl (.tmp 87) (.tmp 89) rfl (.slice A1 k c1) lk rfl ((HO.out.alloc _).alloc _) [⟨5, nmR K oa, nmR K ob, nmR K oc, od⟩] y HYY rfl (Sl.fresh' _ #[_, _, _, _, _] 35 5 1 _ (by simp) rfl) rfl (by rw [HYN.out]; simp only [maxLen]; omega) (by rw [HYN.out]; omega) ?_; intro A4 c4 w4 hc4 hc5 HN1 _ _)
          go_roundw
          case rel => exact ⟨k + 1, A4, c4, by omega, by go_num, by rw [HYN.out], hid (by have hn1 := HN1.out; rw [HYN.out] at hn1; rw [HY.out]; exact hn1)⟩
          case measure => simp [intOf]; omega
        by_cases h6 : ok = 6
        · subst h6
          have rb := qb (by decide)
          have rc := qc (by decide)
          clear qb qc qd hkk h10 h17 h2 h3 h4 h5
          have E : rn K ⟨6, oa, ob, oc, od⟩ = ⟨6, nmR K oa, nmR K ob, nmR K oc, od⟩ := by
            rfl
          rw [E] at hy
          have HYY := hid hy
          clear hy E
          go_wp2_with fail
          refine (name_walk kb oa K _ HKL.out (by omega) (cell_below (bnew (bnil wr) _) kc)).mono ?_
          rintro e w9 ⟨rfl, rfl⟩
          go_wp2_with fail
          refine (name_walk kb ob K _ HKL.out (by omega) (cell_below (bnew (bnil wr) _) kc)).mono ?_
          rintro e w9 ⟨rfl, rfl⟩
          go_wp2_with fail
          refine (name_walk kb oc K _ HKL.out (by omega) (cell_below (bnew (bnil wr) _) kc)).mono ?_
          rintro e w9 ⟨rfl, rfl⟩
          go_wp2_with (at_builtin; refine wpList_appY elmO gO_one rfl (.tmp 87) (.tmp 89) rfl (.slice A1 k c1) lk rfl ((HO.out.alloc _).alloc _) [⟨6, nmR K oa, nmR K ob, nmR K oc, od⟩] y HYY rfl (Sl.fresh' _ #[_, _, _, _, _] 35 5 1 _ (by simp) rfl) rfl (by rw [HYN.out]; simp only [maxLen]; omega) (by rw [HYN.out]; omega) ?_; intro A4 c4 w4 hc4 hc5 HN1 _ _)
          go_roundw
          case rel => exact ⟨k + 1, A4, c4, by omega, by go_num, by rw [HYN.out], hid (by have hn1 := HN1.out; rw [HYN.out] at hn1; rw [HY.out]; exact hn1)⟩
          case measure => simp [intOf]; omega
        by_cases h7 : ok = 7
        · subst h7
          have rb := qb (by decide)
          have rc := qc (by decide)
          clear qb qc qd hkk h10 h17 h2 h3 h4 h5 h6
          have E : rn K ⟨7, oa, ob, oc, od⟩ = ⟨7, nmR K oa, nmR K ob, nmR K oc, od⟩ := by
            rfl
          rw [E] at hy
          have HYY := hid hy
          clear hy E
          go_wp2_with fail
          refine (name_walk kb oa K _ HKL.out (by omega) (cell_below (bnew (bnil wr) _) kc)).mono ?_
          rintro e w9 ⟨rfl, rfl⟩
          go_wp2_with fail
          refine (name_walk kb ob K _ HKL.out (by omega) (cell_below (bnew (bnil wr) _) kc)).mono ?_
          rintro e w9 ⟨rfl, rfl⟩
          go_wp2_with fail
          refine (name_walk kb oc K _ HKL.out (by omega) (cell_below (bnew (bnil wr) _) kc)).mono ?_
          rintro e w9 ⟨rfl, rfl⟩
          go_wp2_with (at_builtin; refine wpList_appY elmO gO_one rfl (.tmp 87) (.tmp 89) rfl (.slice A1 k c1) lk rfl ((HO.out.alloc _).alloc _) [⟨7, nmR K oa, nmR K ob, nmR K oc, od⟩] y HYY rfl (Sl.fresh' _ #[_, _, _, _, _] 35 5 1 _ (by simp) rfl) rfl (by rw [HYN.out]; simp only [maxLen]; omega) (by rw [HYN.out]; omega) ?_; intro A4 c4 w4 hc4 hc5 HN1 _ _)
          go_roundw
          case rel => exact ⟨k + 1, A4, c4, by omega, by go_num, by rw [HYN.out], hid (by have hn1 := HN1.out; rw [HYN.out] at hn1; rw [HY.out]; exact hn1)⟩
          case measure => simp [intOf]; omega
        by_cases h8 : ok = 8
        · subst h8
          have rb := qb (by decide)
          have rc := qc (by decide)
          clear qb qc qd hkk h10 h17 h2 h3 h4 h5 h6 h7
          have E : rn K ⟨8, oa, ob, oc, od⟩ = ⟨8, nmR K oa, nmR K ob, nmR K oc, od⟩ := by
            rfl
          rw [E] at hy
          have HYY := hid hy
          clear hy E
          go_wp2_with fail
          refine (name_walk kb oa K _ HKL.out (by omega) (cell_below (bnew (bnil wr) _) kc)).mono ?_
          rintro e w9 ⟨rfl, rfl⟩
          go_wp2_with fail
          refine (name_walk kb ob K _ HKL.out (by omega) (cell_below (bnew (bnil wr) _) kc)).mono ?_
          rintro e w9 ⟨rfl, rfl⟩
          go_wp2_with fail
          refine (name_walk kb oc K _ HKL.out (by omega) (cell_below (bnew (bnil wr) _) kc)).mono ?_
          rintro e w9 ⟨rfl, rfl⟩
          go_wp2_with (at_builtin; refine wpList_appY elmO gO_one rfl (.tmp 87) (.tmp 89) rfl (.slice A1 k c1) lk rfl ((HO.out.alloc _).alloc _) [⟨8, nmR K oa, nmR K ob, nmR K oc, od⟩] y HYY rfl (Sl.fresh' _ #[_, _, _, _, _] 35 5 1 _ (by simp) rfl) rfl (by rw [HYN.out]; simp only [maxLen]; omega) (by rw [HYN.out]; omega) ?_; intro A4 c4 w4 hc4 hc5 HN1 _ _)
          go_roundw
          case rel => exact ⟨k + 1, A4, c4, by omega, by go_num, by rw [HYN.out], hid (by have hn1 := HN1.out; rw [HYN.out] at hn1; rw [HY.out]; exact hn1)⟩
          case measure => simp [intOf]; omega
        by_cases h9 : ok = 9
        · subst h9
          have rb := qb (by decide)
          have rc := qc (by decide)
          clear qb qc qd hkk h10 h17 h2 h3 h4 h5 h6 h7 h8
          have E : rn K ⟨9, oa, ob, oc, od⟩ = ⟨9, nmR K oa, nmR K ob, nmR K oc, od⟩ := by
            rfl
          rw [E] at hy
          have HYY := hid hy
          clear hy E
          go_wp2_with fail
          refine (name_walk kb oa K _ HKL.out (by omega) (cell_below (bnew (bnil wr) _) kc)).mono ?_
          rintro e w9 ⟨rfl, rfl⟩
          go_wp2_with fail
          refine (name_walk kb ob K _ HKL.out (by omega) (cell_below (bnew (bnil wr) _) kc)).mono ?_
          rintro e w9 ⟨rfl, rfl⟩
          go_wp2_with fail
          refine (name_walk kb oc K _ HKL.out (by omega) (cell_below (bnew (bnil wr) _) kc)).mono ?_
          rintro e w9 ⟨rfl, rfl⟩
          go_wp2_with (at_builtin; refine wpList_appY elmO gO_one rfl (.tmp 87) (.tmp 89) rfl (.slice A1 k c1) lk rfl ((HO.out.alloc _).alloc _) [⟨9, nmR K oa, nmR K ob, nmR K oc, od⟩] y HYY rfl (Sl.fresh' _ #[_, _, _, _, _] 35 5 1 _ (by simp) rfl) rfl (by rw [HYN.out]; simp only [maxLen]; omega) (by rw [HYN.out]; omega) ?_; intro A4 c4 w4 hc4 hc5 HN1 _ _)
          go_roundw
          case rel => exact ⟨k + 1, A4, c4, by omega, by go_num, by rw [HYN.out], hid (by have hn1 := HN1.out; rw [HYN.out] at hn1; rw [HY.out]; exact hn1)⟩
          case measure => simp [intOf]; omega
        by_cases h15 : ok = 15
        · subst h15
          have rd := qd rfl
          clear qb qc qd hkk h10 h17 h2 h3 h4 h5 h6 h7 h8 h9
          have E : rn K ⟨15, oa, ob, oc, od⟩ = ⟨15, nmR K oa, ob, oc, nmR K od⟩ := by
            rfl
          rw [E] at hy
          have HYY := hid hy
          clear hy E
          go_wp2_with fail
          refine (name_walk kb oa K _ HKL.out (by omega) (cell_below (bnew (bnil wr) _) kc)).mono ?_
          rintro e w9 ⟨rfl, rfl⟩
          go_wp2_with fail
          refine (name_walk kb od K _ HKL.out (by omega) (cell_below (bnew (bnil wr) _) kc)).mono ?_
          rintro e w9 ⟨rfl, rfl⟩
          go_wp2_with (at_builtin; refine wpList_appY elmO gO_one rfl (.tmp 87) (.tmp 89) rfl (.slice A1 k c1) lk rfl ((HO.out.alloc _).alloc _) [⟨15, nmR K oa, ob, oc, nmR K od⟩] y HYY rfl (Sl.fresh' _ #[_, _, _, _, _] 35 5 1 _ (by simp) rfl) rfl (by rw [HYN.out]; simp only [maxLen]; omega) (by rw [HYN.out]; omega) ?_; intro A4 c4 w4 hc4 hc5 HN1 _ _)
          go_roundw
          case rel => exact ⟨k + 1, A4, c4, by omega, by go_num, by rw [HYN.out], hid (by have hn1 := HN1.out; rw [HYN.out] at hn1; rw [HY.out]; exact hn1)⟩
          case measure => simp [intOf]; omega
        have n10 : (ok == 10) = false := by simp [h10]
        have n17 : (ok == 17) = false := by simp [h17]
        have n2 : (ok == 2) = false := by simp [h2]
        have n3 : (ok == 3) = false := by simp [h3]
        have n4 : (ok == 4) = false := by simp [h4]
        have n5 : (ok == 5) = false := by simp [h5]
        have n6 : (ok == 6) = false := by simp [h6]
        have n7 : (ok == 7) = false := by simp [h7]
        have n8 : (ok == 8) = false := by simp [h8]
        have n9 : (ok == 9) = false := by simp [h9]
        have n15 : (ok == 15) = false := by simp [h15]
        have hr1 : ¬ (2 ≤ ok ∧ ok ≤ 9) := by omega
        have hr2 : ¬ (3 ≤ ok ∧ ok ≤ 9) := by omega
        have E : rn K ⟨ok, oa, ob, oc, od⟩ = ⟨ok, nmR K oa, ob, oc, od⟩ := by
          unfold rn; simp only [h10, h17, h15, hr1, hr2, ne_eq, not_false_eq_true, and_self, if_true, if_false]
        rw [E] at hy
        have HYY := hid hy
        clear hy E qb qc qd hkk h10 h17 h2 h3 h4 h5 h6 h7 h8 h9 h15 hr1 hr2
        have m10 : (ok != 10) = true := by simpa using n10
        have m17 : (ok != 17) = true := by simpa using n17
        go_wp2_with fail
        refine (name_walk kb oa K _ HKL.out (by omega) (cell_below (bnew (bnil wr) _) kc)).mono ?_
        rintro e w9 ⟨rfl, rfl⟩
        go_wp2_with (at_builtin; refine wpList_appY elmO gO_one rfl (.tmp 87) (.tmp 89) rfl (.slice A1 k c1) lk rfl ((HO.out.alloc _).alloc _) [⟨ok, nmR K oa, ob, oc, od⟩] y HYY rfl (Sl.fresh' _ #[_, _, _, _, _] 35 5 1 _ (by simp) rfl) rfl (by rw [HYN.out]; simp only [maxLen]; omega) (by rw [HYN.out]; omega) ?_; intro A4 c4 w4 hc4 hc5 HN1 _ _)
        go_roundw
        case rel => exact ⟨k + 1, A4, c4, by omega, by go_num, by rw [HYN.out], hid (by have hn1 := HN1.out; rw [HYN.out] at hn1; rw [HY.out]; exact hn1)⟩
        case measure => simp [intOf]; omega
      · obtain rfl : k = nc := by omega
        have E := hid (show (code.take k).map (rn K) = code.map (rn K) by rw [List.take_of_length_le (by rw [HNC.out]; exact Nat.le_refl _)])
        go_wp2
        go_meet
        exact ⟨A1, c1, rfl, by rw [← E.out]; exact HO⟩
  case rest =>
    obtain ⟨A1, c1, rfl, HO1⟩ := hcut
    obtain ⟨w2, hw2⟩ : ∃ w2, w2 = wc := ⟨_, rfl⟩
    subst hw2
    have hmk := mk6
    go_upto_block 3 with fail
    clear hmk
    obtain ⟨b2, hb2⟩ : ∃ b2, w2.heap.size = b2 := ⟨_, rfl⟩
    have HO0 := hid (ints_ow w2)
    rw [hb2] at HO0 ⊢
    have HB2 := hid hb2; clear hb2
    go_cut [15] (fun v wr => v = .slice (some ⟨b2, 0, none⟩) 6 6 ∧ Hid (Ow w2 wr 3 1 gI (.slice (some ⟨b2, 0, none⟩) 6 6) (padk ds (min 6 r))))
    case first =>
      go_wp2_with fail
      go_loopw [16] (fun i wr => ∃ (k : Nat), k ≤ 6 ∧ k ≤ r ∧ i = .int .i64 k ∧ Hid (Ow w2 wr 3 1 gI (.slice (some ⟨b2, 0, none⟩) 6 6) (padk ds k))) (fun i _ => 6 - (intOf i).toNat)
      case atStart => exact ⟨0, Nat.zero_le _, Nat.zero_le _, rfl, by rw [padk_zero]; exact HO0⟩
      case round =>
        obtain ⟨k, hk, hkr, rfl, HO⟩ := hrel
        by_cases h6 : k < 6
        · have i1 : (k : Int) < 6 := by omega
          by_cases hlt : k < r
          · have i2 : (k : Int) < (r : Int) := by omega
            obtain ⟨ad, x, rfl, hx, cx⟩ := ((((HD.out.below B1.out).below B0.out).below HO1.out.below).below HO.out.below).ati hlt
            have hp0 := padk_len ds k (by rw [HDL.out]; omega) (by omega)
            obtain ⟨old, hold⟩ : ∃ old, (padk ds k)[k]? = some old := ⟨_, List.getElem?_eq_getElem (by omega)⟩
            obtain ⟨cy, fy⟩ := HO.out.cellI hold
            have HN := hid (HO.out.setI (show k < (padk ds k).length by omega) x)
            have HE := hid (padk_step ds k x hx h6)
            clear hx hp0 hold
            go_wp2
            go_roundw
            case rel => exact ⟨k + 1, by omega, by omega, by go_num, by rw [HE.out]; exact HN⟩
            case measure => simp [intOf]; omega
          · have i2 : ¬ (k : Int) < (r : Int) := by omega
            have E := hid (show k = min 6 r by omega)
            go_wp2
            go_meet
            exact ⟨rfl, by rw [← E.out]; exact HO⟩
        · obtain rfl : k = 6 := by omega
          have E := hid (show 6 = min 6 r by omega)
          go_wp2
          go_meet
          exact ⟨rfl, by rw [← E.out]; exact HO⟩
    case rest =>
      obtain ⟨rfl, HO2⟩ := hcut
      obtain ⟨w3, hw3⟩ : ∃ w3, w3 = wc := ⟨_, rfl⟩
      subst hw3
      have hul : (padk ds (min 6 r)).length = 6 := padk_len _ _ (by rw [HDL.out]; omega) (by omega)
      generalize padk ds (min 6 r) = us at *
      have HUL := hid hul
      clear hul HO0
      have BW := hid (show Below w.heap.size w w3 from bgo (bgo (bgo B1.out B0.out) HO1.out.below) HO2.out.below)
      have HL0 := hid (show ([] : List Int) ++ us = us from List.nil_append us)
      have ON := hid (Ow.nil w3 3 1 gI)
      have C3 := hid ((HC0.out.below HO1.out.below).below HO2.out.below)
      have hml : (code.map (rn K)).length = nc := by rw [List.length_map, HNC.out]
      have R2 := hid (show CodeAt w2 A1 nc (code.map (rn K)) from ⟨HO1.out.sl, fun o ho => by obtain ⟨o1, h1, rfl⟩ := List.mem_map.1 ho; exact rn_sh _ _ HKL.out _ (HC.out.sh o1 h1) (HCD.out.opin o1 h1)⟩)
      have R3 := hid (R2.out.below HO2.out.below)
      clear hml
      obtain ⟨v1, v2⟩ := vres_d code HCD.out [] us (by simp) HUL.out X
      obtain ⟨y1, y2, y3, y4⟩ := vres_ren K HKL.out code HCD.out us X
      obtain ⟨N1, hN1⟩ : ∃ N1, vcount code X (vbegin code.length [], us) = N1 := ⟨_, rfl⟩
      obtain ⟨S1, hS1⟩ : ∃ S1, vres code [] us X = S1 := ⟨_, rfl⟩
      obtain ⟨S2, hS2⟩ : ∃ S2, vres (code.map (rn K)) [] us X = S2 := ⟨_, rfl⟩
      rw [hN1] at y4
      rw [hS1, hS2] at y1 y2 y3
      rw [hS1] at v1 v2
      obtain ⟨m1, hm1⟩ : ∃ m1, S1.1.told.length = m1 := ⟨_, rfl⟩
      obtain ⟨e1, he1⟩ : ∃ e1, verr S1.1 = e1 := ⟨_, rfl⟩
      have HN1' := hid hN1; have HS1 := hid hS1; have HS2 := hid hS2; have HM1 := hid hm1; have HE1 := hid he1; have HQ1 := hid v2
      have HN2 := hid y4; have HM2 := hid (show S2.1.told.length = m1 by rw [y1, hm1]); have HE2 := hid (show verr S2.1 = e1 by rw [y3, he1]); have HQ2 := hid (show S2.2.length = 6 by rw [y2, v2])
      have HT1 := hid y1; have HW1 := hid y2
      clear v1 v2 y1 y2 y3 y4 hN1 hS1 hS2 hm1 he1
      go_wp2_with (at_builtin; refine wpList_appY elmI gI_one rfl (.const (.slice none 0 0)) (.tmp 111) rfl (.slice none 0 0) [] rfl ON.out us us HL0 rfl HO2.out.sl HUL.out (by rw [HUL.out]; simp [maxLen]) (by rw [HUL.out]; decide) ?_; intro A4 c4 w4 hc4 hc5 HN1 _ _)
      refine (picked0 b 600 _ (by decide) hb hb1 (by decide)).mono ?_
      rintro e w9 ⟨rfl, rfl⟩
      rw [HX.out]
      have B4 := hid (bgo BW.out HN1.out.below)
      go_wp2_with fail
      refine (vm_runL S1 N1 m1 6 e1 HS1 HN1' HM1 HQ1 HE1 (by omega) (by omega) (by rw [HUL.out]; decide) (by omega) (HT.out.below B4.out) (C3.out.below HN1.out.below) (Sl.nil _) HN1.out.sl).mono ?_
      rintro e w5 ⟨B5, c5, D5, d5, rfl, g1, g2, g3, g4, O5, P5⟩
      have BW5 := hid (bgo B4.out O5.out.below)
      have U5 := hid ((HO2.out.step HN1.out.below).step O5.out.below)
      have R5 := hid ((R3.out.below HN1.out.below).below O5.out.below)
      have ON5 := hid (Ow.nil w5 3 1 gI)
      go_wp2_with (at_builtin; refine wpList_appY elmI gI_one rfl (.const (.slice none 0 0)) (.tmp 122) rfl (.slice none 0 0) [] rfl ON5.out us us HL0 rfl U5.out.sl HUL.out (by rw [HUL.out]; simp [maxLen]) (by rw [HUL.out]; decide) ?_; intro A6 c6 w6 hc6 hc7 HN3 _ _)
      refine (picked0 b 600 _ (by decide) hb hb1 (by decide)).mono ?_
      rintro e w9 ⟨rfl, rfl⟩
      rw [HX.out]
      have BW6 := hid (bgo BW5.out HN3.out.below)
      have O6 := hid (O5.out.step HN3.out.below); have P6 := hid (P5.out.step HN3.out.below)
      go_wp2_with fail
      refine (vm_runL S2 N1 m1 6 e1 HS2 HN2 HM2 HQ2 HE2 (by omega) (by omega) (by rw [HUL.out]; decide) (by omega) (HT.out.below BW6.out) (R5.out.below HN3.out.below) (Sl.nil _) HN3.out.sl).mono ?_
      rintro e w7 ⟨B7, c7, D7, d7, rfl, h1, h2, h3, h4, O7, P7⟩
      have BW7 := hid (bgo BW6.out O7.out.below)
      have O6' := hid (O6.out.step O7.out.below); have P6' := hid (P6.out.step O7.out.below)
      rw [HT1.out] at O7
      rw [HW1.out] at P7
      go_wp2_with fail
      refine (vm_sure w7 (HT.out.below BW7.out)).mono ?_
      rintro e w8 ⟨rfl, b8⟩
      have BW8 := hid (bgo BW7.out b8)
      have Oa := hid (O6'.out.step b8); have Pa := hid (P6'.out.step b8); have Ob := hid (O7.out.step b8); have Pb := hid (P7.out.step b8)
      clear b8
      go_wp2_with fail
      refine (same_ints B5 B7 m1 c5 c7 S1.1.told w8 (by omega) Oa.out.sl Ob.out.sl).mono ?_
      rintro e w10 ⟨rfl, b10⟩
      have BW10 := hid (bgo BW8.out b10)
      have Pc := hid (Pa.out.step b10); have Pd := hid (Pb.out.step b10)
      clear b10
      go_wp2_with fail
      refine (same_ints D5 D7 6 d5 d7 S1.2 w10 (by decide) Pc.out.sl Pd.out.sl).mono ?_
      rintro e w11 ⟨rfl, b11⟩
      go_wp2
      go_ret
      exact ⟨by simp, bgo BW10.out b11⟩
end Go.Proofs.YtljdnbdmfhcmpaaDoor
