/-
  LinTurned: its walk.
-/
import Derived.Test.YtfdgklfkpofkeaaLinOrd
import Derived.StillTailTactics
namespace Go.Proofs.Ytfdgklfkpofkeaa
open Go.RowKit Go.Maps
set_option linter.unusedVariables false

theorem ow_fresh9 (w : World) (a : LA) : Ow w (w.alloc (.cells #[.int .i64 a.b, .int .i64 a.e, .bool a.put, .int .i64 a.val, .int .i64 a.by_] 32)) 32 5 gA (.slice (some ⟨w.heap.size, 0, none⟩) 1 1) [a] :=
  ⟨⟨rfl, .inr ⟨w.heap.size, 1, _, rfl, Nat.le_refl _, Blk.new w _ _, Nat.le_refl _, by simp [maxLen], rfl, rfl⟩⟩, bnew (bnil w) _⟩
theorem turn_len {α : Type} (l : List α) (r : Nat) (hl : 0 < l.length) : ∀ k, (turnL l r k).length = k
  | 0 => by simp [turnL]
  | k + 1 => by
    have hlt : (k + r) % l.length < l.length := Nat.mod_lt _ hl
    rw [turnL_succ l r k _ (List.getElem?_eq_getElem hlt), List.length_append, turn_len l r hl k]; rfl
theorem later_may {kd : Nat} {s : Int} (hs : 0 ≤ s ∧ s ≤ 1000) {L : List LA} (h : ∀ a ∈ L, LMayC kd a ∧ a.b ≤ 1000 ∧ a.e ≤ 1000) : ∀ a ∈ L.map (·.later s), LMayC kd a := by
  intro y hy
  obtain ⟨a, ha, rfl⟩ := List.mem_map.1 hy
  obtain ⟨⟨m1, m2, m3, m4, m5⟩, h2, h3⟩ := h a ha
  refine ⟨show 0 ≤ a.b + s by omega, show a.b + s ≤ 1048576 by omega, ?_, m4, m5⟩
  show (if a.e = -1 then -1 else a.e + s) = -1 ∨ (a.b + s ≤ (if a.e = -1 then -1 else a.e + s) ∧ (if a.e = -1 then -1 else a.e + s) ≤ 1048576)
  by_cases he : a.e = -1
  · rw [if_pos he]; exact .inl rfl
  · rw [if_neg he]; right; omega
set_option maxRecDepth 100000 in
set_option maxHeartbeats 16000000 in
theorem law_linTurned (a0 a1 : Int) (A : Option Addr) (n c : Nat) (ds : List VDeal) (a3 : Int) (a4 : Int) (a5 : Int) (w : World) (p0 : -9223372036854775808 ≤ a0) (p1 : a0 ≤ 9223372036854775807) (p2 : -9223372036854775808 ≤ a1) (p3 : a1 ≤ 9223372036854775807)
    (hn : n ≤ c) (hc : c ≤ maxLen) (hz : c * 40 ≤ 140737488351232) (hS : Sl w 5 A n (ds.flatMap gD)) (hok : ∀ x ∈ ds, I64 x.val ∧ I64 x.early ∧ I64 x.late) (lo_a3 : -9223372036854775808 ≤ a3) (hi_a3 : a3 ≤ 9223372036854775807) (lo_a4 : -9223372036854775808 ≤ a4) (hi_a4 : a4 ≤ 9223372036854775807) (lo_a5 : -9223372036854775808 ≤ a5) (hi_a5 : a5 ≤ 9223372036854775807) :
    Calls Try.prog 7 #[.int .i64 a0, .int .i64 a1, .slice A n c, .int .i64 a3, .int .i64 a4, .int .i64 a5] w fun e w' => e = .returned (.bool true) ∧ Below w.heap.size w w' := by
  have H := hid (show DealsAt w A n ds from ⟨by have := hS.1; rw [flatMap_len gD 5 (fun _ => rfl)] at this; omega, hS, hok⟩)
  clear hS hok hz
  obtain ⟨kd, hkd⟩ : ∃ kd, pk a0 4 = kd := ⟨_, rfl⟩
  obtain ⟨f, hf⟩ : ∃ f, (pk a1 5 : Int) = f := ⟨_, rfl⟩
  have hk4 : kd < 4 := by have := pk_lt a0 4 (by decide); omega
  have HF := hid (show 0 ≤ f ∧ f ≤ 4 by have := pk_lt a1 5 (by decide); omega)
  have HKD := hid hkd
  have HFE := hid hf
  clear hkd hf
  go_enter Try.func7, Try.ntmps7
  go_wp2_with fail
  refine (picked a0 4 _ (by omega) p0 p1 (by omega)).mono ?_
  rintro e w1 ⟨rfl, rfl⟩
  rw [HKD.out]
  go_wp2_with fail
  refine (picked a1 5 _ (by omega) p2 p3 (by omega)).mono ?_
  rintro e w1 ⟨rfl, rfl⟩
  rw [HFE.out]
  go_wp2_with fail
  refine (seq_ofK _ kd f true A n c ds _ (by omega) hk4 HF.out H.out).mono ?_
  rintro e w1 ⟨A1, c1, rfl, o1⟩
  obtain ⟨L, hL⟩ : ∃ L, seqL true (LO.init kd f) 0 (ds.take 9) = L := ⟨_, rfl⟩
  obtain ⟨m, hm⟩ : ∃ m, min n 9 = m := ⟨_, rfl⟩
  have t1 := told9 hk4 HF.out H.out o1
  have hm9 := t1.m9
  have hLL := t1.len
  have hLM := t1.may
  rw [hL] at o1 hLL hLM
  rw [hm] at o1 hLL hm9
  rw [hm]
  have O1 := hid o1
  have B1 := hid o1.below
  have HLL := hid hLL
  have HLM := hid hLM
  have HLE := hid hL
  have HML := hid hm
  clear t1 hLL hLM o1 hL hm
  have hsmall : ∀ a ∈ L, LMayC kd a ∧ a.b ≤ 1000 ∧ a.e ≤ 1000 := fun a ha => by
    refine ⟨HLM.out a ha, ?_⟩
    rw [← HLE.out] at ha
    obtain ⟨j, hj⟩ := List.getElem?_of_mem ha
    have hj9 : j < 9 := by have := (List.getElem?_eq_some_iff.1 hj).1; rw [seqL_length, List.length_take] at this; omega
    obtain ⟨⟨_, h2, _, h4, _⟩, _⟩ := seqL_get true (ds.take 9) (LO.init kd f) 0 0 j a (init_small hk4 HF.out) hj
    omega
  have HSM := hid hsmall
  clear hsmall
  go_upto_if 35 with fail
  go_cut [] (fun wx => ∃ L2 : List LA, Hid (L2.length = m ∧ ∀ a ∈ L2, LMayC kd a ∧ a.b ≤ 1000 ∧ a.e ≤ 1000) ∧ Hid (Ow w wx 32 5 gA (.slice A1 m c1) L2))
  case first =>
    by_cases hm0 : m = 0
    · subst hm0
      go_wp2_with fail
      go_meet
      exact ⟨L, hid ⟨HLL.out, HSM.out⟩, O1⟩
    · have i0 : (0 : Int) < (m : Int) := by omega
      obtain ⟨i, hi⟩ : ∃ i, pk a3 (m : Int) = i := ⟨_, rfl⟩
      have him : i < m := by have := pk_lt a3 (m : Int) (by omega); omega
      obtain ⟨a, ha⟩ : ∃ a, L[i]? = some a := ⟨_, List.getElem?_eq_getElem (by rw [HLL.out]; exact him)⟩
      obtain ⟨b, rfl⟩ := O1.out.ad (by rw [HLL.out]; omega)
      have g2 := (O1.out.cellG (g := gA) (j := 2) (fun _ => rfl) ha rfl).1
      have g3f := (O1.out.cellG (g := gA) (j := 3) (fun _ => rfl) ha rfl).2
      have g3c := (O1.out.cellG (g := gA) (j := 3) (fun _ => rfl) ha rfl).1
      have HI := hid hi
      have HA := hid ha
      clear hi ha
      have i1 : (i : Int) < (m : Int) := by omega
      obtain ⟨xv, hxv⟩ : ∃ xv : Int, (pk a4 4 : Int) = xv := ⟨_, rfl⟩
      have HXV := hid hxv
      have HXV2 := hid (show 0 ≤ xv ∧ xv < 4 by have := pk_lt a4 4 (by decide); omega)
      clear hxv
      go_wp2_with fail
      refine (picked a3 (m : Int) _ (by omega) lo_a3 hi_a3 (by omega)).mono ?_
      rintro e w2 ⟨rfl, rfl⟩
      rw [HI.out]
      cases hap : a.put with
      | true =>
        rw [hap] at g2
        clear hap
        go_wp2_with fail
        go_meet
        exact ⟨L, hid ⟨HLL.out, HSM.out⟩, O1⟩
      | false =>
        rw [hap] at g2
        have HAP := hid hap
        clear hap
        have HSET := hid (show Ow w (w1.setCell ⟨b, i * 5 + 3, none⟩ (.int .i64 xv)) 32 5 gA (.slice (some ⟨b, 0, none⟩) m c1) (L.set i ⟨a.b, a.e, a.put, xv, a.by_⟩) from
          O1.out.setG (g := gA) (fun _ => rfl) HA.out (by decide) rfl)
        have HS2 := hid (show (L.set i ⟨a.b, a.e, a.put, xv, a.by_⟩).length = m ∧ ∀ c ∈ L.set i ⟨a.b, a.e, a.put, xv, a.by_⟩, LMayC kd c ∧ c.b ≤ 1000 ∧ c.e ≤ 1000 from by
          refine ⟨by rw [List.length_set]; exact HLL.out, fun c hc => ?_⟩
          rcases List.mem_or_eq_of_mem_set hc with hc | rfl
          · exact HSM.out c hc
          · obtain ⟨⟨m1, m2, m3, m4, m5⟩, h2, h3⟩ := HSM.out a (List.mem_of_getElem? HA.out)
            have hx := HXV2.out
            exact ⟨⟨m1, m2, m3, m4, fun _ h => by have : xv < 0 := h; omega⟩, h2, h3⟩)
        go_wp2_with fail
        refine (picked a4 4 _ (by omega) lo_a4 hi_a4 (by omega)).mono ?_
        rintro e w2 ⟨rfl, rfl⟩
        rw [HXV.out]
        go_wp2_with fail
        go_meet
        exact ⟨_, HS2, HSET⟩
  case rest =>
    obtain ⟨L2, HL2, O2⟩ := hcut
    obtain ⟨w2, hw2⟩ : ∃ w2, w2 = wc := ⟨_, rfl⟩
    subst hw2
    clear O1 HLL HLM HLE HSM
    obtain ⟨s, hs⟩ : ∃ s : Int, (pk a5 1000 : Int) = s := ⟨_, rfl⟩
    have hs0 : 0 ≤ s := by omega
    have hs1 : s ≤ 999 := by have := pk_lt a5 1000 (by decide); omega
    have HS := hid hs
    clear hs
    obtain ⟨r, hr⟩ : ∃ r, pk a5 (m : Int) = r := ⟨_, rfl⟩
    have HRR := hid hr
    clear hr
    go_wp2_with fail
    go_loopw [17, 18] (fun v q wr => ∃ (k : Nat) (Ap : Option Addr) (cp : Nat), k ≤ m ∧ v = .slice Ap k cp ∧ q = .int .i64 k ∧ Hid (Below w2.heap.size w2 wr ∧ Sl wr 5 Ap k (((turnL L2 r k).map (·.later s)).reverse.flatMap gA))) (fun _ q _ => m - (intOf q).toNat)
    case atStart => exact ⟨0, none, 0, Nat.zero_le _, rfl, rfl, hid ⟨bnil w2, Sl.nil _⟩⟩
    case round =>
      obtain ⟨k, Ap, cp, hkm, rfl, rfl, HR⟩ := hrel
      by_cases hlt : k < m
      · have hrm : r < m := by have := pk_lt a5 (m : Int) (by omega); have := HRR.out; omega
        obtain ⟨j, hj⟩ : ∃ j, (k + r) % m = j := ⟨_, rfl⟩
        have hjm : j < m := by rw [← hj]; exact Nat.mod_lt _ (by omega)
        obtain ⟨ad, x, rfl, hx, f0, f1, f2, f3, f4⟩ := acts_at (O2.out.sl.below HR.out.1) HL2.out.1 hjm
        have HX := hid (show L2[(k + r) % m]? = some x by rw [hj]; exact hx)
        have HTL := hid (turn_len L2 r (by rw [HL2.out.1]; omega) k)
        have hxm := (HL2.out.2 x (List.mem_of_getElem? hx))
        have hb0 : 0 ≤ x.b := hxm.1.1
        have hb1 : x.b ≤ 1000 := hxm.2.1
        have he1 : x.e ≤ 1000 := hxm.2.2
        have he0 : -1 ≤ x.e := by rcases hxm.1.2.2.1 with h | h <;> omega
        have ht : ((k : Int) + (r : Int)).tmod (m : Int) = (j : Int) := by
          rw [← Int.natCast_add, ← Int.ofNat_tmod, hj]
        have hkr : (k : Int) + (r : Int) ≤ 100 := by omega
        have hkr0 : 0 ≤ (k : Int) + (r : Int) := by omega
        have i1 : (k : Int) < (m : Int) := by omega
        have i2 : (j : Int) < (m : Int) := by omega
        clear hj hx hxm
        obtain ⟨W6, hW6⟩ : ∃ W6, wr.alloc (.cells #[.int .i64 x.b, .int .i64 x.e, .bool x.put, .int .i64 x.val, .int .i64 x.by_] 32) = W6 := ⟨_, rfl⟩
        obtain ⟨X, hX⟩ : ∃ X, wr.heap.size = X := ⟨_, rfl⟩
        have HW6 := hid hW6
        have HX5 := hid hX
        have B6 := hid (show Blk W6 X 32 #[.int .i64 x.b, .int .i64 x.e, .bool x.put, .int .i64 x.val, .int .i64 x.by_] by rw [← hW6, ← hX]; exact Blk.new _ _ _)
        have Z6 := hid (show Below wr.heap.size wr W6 by rw [← hW6]; exact bnew (bnil wr) _)
        obtain ⟨W7, hW7⟩ : ∃ W7, (W6.setCell ⟨X, 0, none⟩ (.int .i64 (x.b + s))).drew = W7 := ⟨_, rfl⟩
        have HW7 := hid hW7
        have B7 := hid (show Blk W7 X 32 #[.int .i64 (x.b + s), .int .i64 x.e, .bool x.put, .int .i64 x.val, .int .i64 x.by_] by rw [← hW7]; exact B6.out.set_ 0 _)
        have Z7 := hid (show Below wr.heap.size wr W7 by rw [← hW7]; exact (Z6.out.setCell (p := ⟨X, 0, none⟩) (by rw [hX]; exact Nat.le_refl _) _).drew)
        clear hW6 hW7 hX
        go_wp2_with fail
        refine (picked a5 (m : Int) _ (by omega) lo_a5 hi_a5 (by omega)).mono ?_
        rintro e w3 ⟨rfl, rfl⟩
        rw [HRR.out]
        go_upto_region 13 with fail
        rw [HW6.out]
        simp only [HX5.out]
        have s0 := B6.out.cell 0
        have s0f := B6.out.frozen 0
        refine wp_still9 6 (by kernel_rfl) (by kernel_rfl) ?_
        simp only [List.take_succ_cons, List.take_zero, List.drop_succ_cons, List.drop_zero]
        repeat still_step
        still_call (pickedS a5 1000 s _ HS.out (by omega) lo_a5 hi_a5 (by omega))
        repeat still_step
        refine wpStill_nil ?_
        go_upto_region 14 with fail
        rw [HW7.out]
        clear s0 s0f f0 f1 f2 f3 f4
        have s1 := B7.out.cell 1
        have s1f := B7.out.frozen 1
        by_cases he : x.e = -1
        · have q2 : ((x.e : Int) != -1) = false := by simp [he]
          have HE := hid he
          clear he
          obtain ⟨WZ, hWZ⟩ : ∃ WZ, W7 = WZ := ⟨_, rfl⟩
          have BX := hid B7.out
          have BZ := hid Z7.out
          subst hWZ
          have HEL := hid (show x.later s = ⟨x.b + s, x.e, x.put, x.val, x.by_⟩ from by unfold LA.later; rw [if_pos HE.out, HE.out])
          obtain ⟨y, hy⟩ : ∃ y, [x.later s] ++ ((turnL L2 r k).map (·.later s)).reverse = y := ⟨_, rfl⟩
          have HY := hid hy
          have HYL := hid (show y.length = k + 1 by rw [← hy, List.length_append, List.length_reverse, List.length_map, HTL.out]; simp; omega)
          have HOTH := hid (HR.out.2.below BZ.out)
          have HLT := hid (show ((turnL L2 r k).map (·.later s)).reverse.length = k by rw [List.length_reverse, List.length_map, HTL.out])
          have t0 := BX.out.cell 0
          have t1 := BX.out.cell 1
          have t2 := BX.out.cell 2
          have t3 := BX.out.cell 3
          have t4 := BX.out.cell 4
          clear hy
          go_wp2_with (at_builtin; refine wpList_appY elmA gA_one rfl (.tmp 86) (.tmp 87) rfl (.slice (some ⟨W7.heap.size, 0, none⟩) 1 1) [x.later s] rfl (by rw [HEL.out]; exact ow_fresh9 _ (⟨x.b + s, x.e, x.put, x.val, x.by_⟩ : LA)) ((turnL L2 r k).map (·.later s)).reverse y HY rfl (HOTH.out.below (bnew (bnil _) _)) HLT.out (by rw [HYL.out]; simp only [maxLen]; omega) (by rw [HYL.out]; omega) ?_; intro A7 c7 w7 hc7 hc8 O7 G7 _)
          have HNEW := hid (show Below w2.heap.size w2 w7 ∧ Sl w7 5 A7 (k + 1) (((turnL L2 r (k + 1)).map (·.later s)).reverse.flatMap gA) from by
            refine ⟨bgo HR.out.1 (bgo BZ.out O7.out.below), ?_⟩
            rw [turnL_succ L2 r k x (by rw [HL2.out.1]; exact HX.out), List.map_append, List.reverse_append]
            have := O7.out.sl
            rw [HYL.out, ← HY.out] at this
            exact this)
          rw [HYL.out]
          clear O7 G7
          go_roundw
          case rel => exact ⟨k + 1, A7, c7, by omega, rfl, by go_num, HNEW⟩
          case measure => simp [intOf]; omega
        · have q2 : ((x.e : Int) != -1) = true := by simp [he]
          have HE := hid he
          clear he
          obtain ⟨W8, hW8⟩ : ∃ W8, (W7.setCell ⟨X, 1, none⟩ (.int .i64 (x.e + s))).drew = W8 := ⟨_, rfl⟩
          have HW8 := hid hW8
          have BX := hid (show Blk W8 X 32 #[.int .i64 (x.b + s), .int .i64 (x.e + s), .bool x.put, .int .i64 x.val, .int .i64 x.by_] by rw [← hW8]; exact B7.out.set_ 1 _)
          have BZ := hid (show Below wr.heap.size wr W8 by rw [← hW8]; exact (Z7.out.setCell (p := ⟨X, 1, none⟩) (by rw [HX5.out]; exact Nat.le_refl _) _).drew)
          clear hW8
          go_upto_region 15 with fail
          refine wp_still9 6 (by kernel_rfl) (by kernel_rfl) ?_
          simp only [List.take_succ_cons, List.take_zero, List.drop_succ_cons, List.drop_zero]
          repeat still_step
          still_call (pickedS a5 1000 s _ HS.out (by omega) lo_a5 hi_a5 (by omega))
          repeat still_step
          refine wpStill_nil ?_
          go_upto_region 16 with fail
          rw [HW8.out]
          clear s1 s1f
          have HEL := hid (show x.later s = ⟨x.b + s, (x.e + s), x.put, x.val, x.by_⟩ from by unfold LA.later; rw [if_neg HE.out])
          obtain ⟨y, hy⟩ : ∃ y, [x.later s] ++ ((turnL L2 r k).map (·.later s)).reverse = y := ⟨_, rfl⟩
          have HY := hid hy
          have HYL := hid (show y.length = k + 1 by rw [← hy, List.length_append, List.length_reverse, List.length_map, HTL.out]; simp; omega)
          have HOTH := hid (HR.out.2.below BZ.out)
          have HLT := hid (show ((turnL L2 r k).map (·.later s)).reverse.length = k by rw [List.length_reverse, List.length_map, HTL.out])
          have t0 := BX.out.cell 0
          have t1 := BX.out.cell 1
          have t2 := BX.out.cell 2
          have t3 := BX.out.cell 3
          have t4 := BX.out.cell 4
          clear hy
          go_wp2_with (at_builtin; refine wpList_appY elmA gA_one rfl (.tmp 86) (.tmp 87) rfl (.slice (some ⟨W8.heap.size, 0, none⟩) 1 1) [x.later s] rfl (by rw [HEL.out]; exact ow_fresh9 _ (⟨x.b + s, (x.e + s), x.put, x.val, x.by_⟩ : LA)) ((turnL L2 r k).map (·.later s)).reverse y HY rfl (HOTH.out.below (bnew (bnil _) _)) HLT.out (by rw [HYL.out]; simp only [maxLen]; omega) (by rw [HYL.out]; omega) ?_; intro A7 c7 w7 hc7 hc8 O7 G7 _)
          have HNEW := hid (show Below w2.heap.size w2 w7 ∧ Sl w7 5 A7 (k + 1) (((turnL L2 r (k + 1)).map (·.later s)).reverse.flatMap gA) from by
            refine ⟨bgo HR.out.1 (bgo BZ.out O7.out.below), ?_⟩
            rw [turnL_succ L2 r k x (by rw [HL2.out.1]; exact HX.out), List.map_append, List.reverse_append]
            have := O7.out.sl
            rw [HYL.out, ← HY.out] at this
            exact this)
          rw [HYL.out]
          clear O7 G7
          go_roundw
          case rel => exact ⟨k + 1, A7, c7, by omega, rfl, by go_num, HNEW⟩
          case measure => simp [intOf]; omega
      · obtain rfl : k = m := by omega
        have hLT : ((turnL L2 r k).map (·.later s)).reverse.length = k ∧ (((turnL L2 r k).map (·.later s)).reverse).Perm (L2.map (·.later s)) := by
          have h1 := HL2.out.1
          by_cases h0 : k = 0
          · subst h0
            have : L2 = [] := List.eq_nil_of_length_eq_zero h1
            rw [this, turnL_nil]; exact ⟨rfl, .refl _⟩
          · have hrm : r < L2.length := by have := pk_lt a5 (k : Int) (by omega); have := HRR.out; omega
            refine ⟨by rw [List.length_reverse, List.length_map, turn_len L2 r (by omega)], (List.reverse_perm _).trans ?_⟩
            have := turnL_perm L2 hrm
            rw [h1] at this
            exact this.map _
        have HLT := hid hLT
        have hiff := turn_lin (o := LO.init kd f) hs0 hLT.2 (fun a ha => by have := (HL2.out.2 a ha).1.2.2.1; have := (HL2.out.2 a ha).1.1; omega)
        have HIFF := hid hiff
        have HMY := hid (show ∀ a ∈ ((turnL L2 r k).map (·.later s)).reverse, LMayC kd a from fun a ha => later_may ⟨hs0, by omega⟩ HL2.out.2 a (hLT.2.mem_iff.1 ha))
        clear hLT hiff
        go_wp2_with fail
        refine (lin_checkK _ kd f A1 k c1 L2 _ (by omega) hk4 hm9 (O2.out.sl.below HR.out.1) HL2.out.1 (fun a ha => (HL2.out.2 a ha).1)).mono ?_
        rintro e w4 ⟨b4, rfl, hb4, z4⟩
        have HB4 := hid hb4
        have Z4 := hid z4
        clear hb4 z4
        go_wp2_with fail
        refine (lin_checkK _ kd f Ap k cp _ _ (by omega) hk4 hm9 (HR.out.2.below Z4.out) HLT.out.1 HMY.out).mono ?_
        rintro e w5 ⟨b5, rfl, hb5, z5⟩
        obtain rfl : b5 = b4 := by
          have h1 := hb5.trans (HIFF.out.symm.trans HB4.out.symm)
          cases b4 <;> cases b5 <;> simp at h1 <;> rfl
        have B5 := hid (bgo O2.out.below (bgo HR.out.1 (bgo Z4.out z5)))
        clear hb5 z5
        cases b5
        all_goals
          go_wp2_with fail
          refine (lin_sure _).mono ?_
          rintro e w9 ⟨rfl, z9⟩
          have B9 := hid (bgo B5.out z9)
          clear z9
          go_wp2_with fail
          go_ret
          exact ⟨rfl, B9.out⟩
end Go.Proofs.Ytfdgklfkpofkeaa
