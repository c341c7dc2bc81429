/-
  LinPart: its walk.
-/
import Derived.Test.YtfdgklfkpofkeaaLinOrd
import Derived.StillTailTactics
namespace Go.Proofs.Ytfdgklfkpofkeaa
open Go.RowKit Go.Maps
set_option linter.unusedVariables false

theorem part_len (t : Int) (l : List LA) : (partL t l).length ≤ l.length := by unfold partL; rw [List.length_map]; exact List.length_filter_le _ _
theorem part_next (t : Int) {L : List LA} {k : Nat} {a : LA} (h : L[k]? = some a) : partL t (L.take (k + 1)) = if a.b ≤ t then partL t (L.take k) ++ [a.cut t] else partL t (L.take k) := by
  rw [take_next h]
  unfold partL
  rw [List.filter_append, List.map_append]
  by_cases hb : a.b ≤ t
  · rw [if_pos hb, List.filter_cons_of_pos (by simpa using hb)]; rfl
  · rw [if_neg hb, List.filter_cons_of_neg (by simpa using hb)]; simp
theorem part_may {kd : Nat} {t : Int} {L : List LA} (h : ∀ a ∈ L, LMayC kd a) : ∀ a ∈ partL t L, LMayC kd a := by
  intro x hx
  obtain ⟨a, ha, rfl⟩ := List.mem_map.1 hx
  obtain ⟨m1, m2, m3, m4, m5⟩ := h a (List.mem_filter.1 ha).1
  refine ⟨m1, m2, ?_, m4, m5⟩
  show (if a.e > t then -1 else a.e) = -1 ∨ (a.b ≤ (if a.e > t then -1 else a.e) ∧ (if a.e > t then -1 else a.e) ≤ 1048576)
  by_cases h : a.e > t
  · rw [if_pos h]; exact .inl rfl
  · rw [if_neg h]; exact m3
set_option maxRecDepth 100000 in
set_option maxHeartbeats 16000000 in
theorem law_linPart (a0 a1 : Int) (A : Option Addr) (n c : Nat) (ds : List VDeal) (a3 : Int) (w : World) (p0 : -9223372036854775808 ≤ a0) (p1 : a0 ≤ 9223372036854775807) (p2 : -9223372036854775808 ≤ a1) (p3 : a1 ≤ 9223372036854775807)
    (hn : n ≤ c) (hc : c ≤ maxLen) (hz : c * 40 ≤ 140737488351232) (hS : Sl w 5 A n (ds.flatMap gD)) (hok : ∀ x ∈ ds, I64 x.val ∧ I64 x.early ∧ I64 x.late) (lo_a3 : -9223372036854775808 ≤ a3) (hi_a3 : a3 ≤ 9223372036854775807) :
    Calls Try.prog 5 #[.int .i64 a0, .int .i64 a1, .slice A n c, .int .i64 a3] w fun e w' => e = .returned (.bool true) ∧ Below w.heap.size w w' := by
  have H := hid (show DealsAt w A n ds from ⟨by have := hS.1; rw [flatMap_len gD 5 (fun _ => rfl)] at this; omega, hS, hok⟩)
  clear hS hok hz
  obtain ⟨kd, hkd⟩ : ∃ kd, pk a0 4 = kd := ⟨_, rfl⟩
  obtain ⟨f, hf⟩ : ∃ f, (pk a1 5 : Int) = f := ⟨_, rfl⟩
  have hk4 : kd < 4 := by have := pk_lt a0 4 (by decide); omega
  have HF := hid (show 0 ≤ f ∧ f ≤ 4 by have := pk_lt a1 5 (by decide); omega)
  have HKD := hid hkd
  have HFE := hid hf
  clear hkd hf
  obtain ⟨t, ht⟩ : ∃ t : Int, (pk a3 260 : Int) = t := ⟨_, rfl⟩
  have HT := hid (show 0 ≤ t ∧ t < 260 by have := pk_lt a3 260 (by decide); omega)
  have HTE := hid ht
  clear ht
  go_enter Try.func5, Try.ntmps5
  go_wp2_with fail
  refine (picked a0 4 _ (by omega) p0 p1 (by omega)).mono ?_
  rintro e w1 ⟨rfl, rfl⟩
  rw [HKD.out]
  go_wp2_with fail
  refine (picked a1 5 _ (by omega) p2 p3 (by omega)).mono ?_
  rintro e w1 ⟨rfl, rfl⟩
  rw [HFE.out]
  go_wp2_with fail
  refine (seq_ofK _ kd f true A n c ds _ (by omega) hk4 HF.out H.out).mono ?_
  rintro e w1 ⟨A1, c1, rfl, o1⟩
  obtain ⟨L, hL⟩ : ∃ L, seqL true (LO.init kd f) 0 (ds.take 9) = L := ⟨_, rfl⟩
  obtain ⟨m, hm⟩ : ∃ m, min n 9 = m := ⟨_, rfl⟩
  have t1 := told9 hk4 HF.out H.out o1
  have hm9 := t1.m9
  have hLL := t1.len
  have hLM := t1.may
  rw [hL] at o1 hLL hLM
  rw [hm] at o1 hLL hm9
  rw [hm]
  have O1 := hid o1
  have B1 := hid o1.below
  have HLL := hid hLL
  have HLM := hid hLM
  have HLE := hid hL
  have HML := hid hm
  clear t1 hLL hLM o1 hL hm
  go_wp2_with fail
  refine (picked a3 260 _ (by omega) lo_a3 hi_a3 (by omega)).mono ?_
  rintro e w2 ⟨rfl, rfl⟩
  rw [HTE.out]
  go_wp2_with fail
  go_loopw [13, 14] (fun v q wr => ∃ (k : Nat) (Ap : Option Addr) (cp : Nat), k ≤ m ∧ v = .slice Ap (partL t (L.take k)).length cp ∧ q = .int .i64 k ∧ Hid (Ow w1 wr 32 5 gA (.slice Ap (partL t (L.take k)).length cp) (partL t (L.take k)))) (fun _ q _ => m - (intOf q).toNat)
  case atStart => exact ⟨0, none, 0, Nat.zero_le _, rfl, rfl, hid (Ow.nil w1 _ 5 gA)⟩
  case round =>
    obtain ⟨k, Ap, cp, hkm, rfl, rfl, HR⟩ := hrel
    by_cases hlt : k < m
    · obtain ⟨ad, a, rfl, ha, f0, f1, f2, f3, f4⟩ := acts_at (O1.out.sl.below HR.out.below) HLL.out hlt
      have HX := hid ha
      clear ha
      have i1 : (k : Int) < (m : Int) := by omega
      by_cases hb : a.b ≤ t
      · have HLE2 := hid hb
        have q1 : ¬ (t < a.b) := by omega
        clear hb
        have u0 := World.block_lt_of_cell? _ _ f0
        by_cases he : a.e > t
        · have HE := hid he
          have q2 : t < a.e := he
          clear he
          have HEL := hid (show a.cut t = ⟨a.b, -1, a.put, a.val, a.by_⟩ from by unfold LA.cut; rw [if_pos HE.out])
          have HOUT := hid (HR.out.step (show Below wr.heap.size wr (wr.alloc (.cells #[.int .i64 a.b, .int .i64 (-1), .bool a.put, .int .i64 a.val, .int .i64 a.by_] 32)) from bnew (bnil wr) _))
          obtain ⟨y, hy⟩ : ∃ y, partL t (L.take k) ++ [a.cut t] = y := ⟨_, rfl⟩
          have HY := hid hy
          have HYL := hid (show y.length = (partL t (L.take k)).length + 1 by rw [← hy, List.length_append]; rfl)
          have hpl := part_len t (L.take k)
          rw [List.length_take] at hpl
          clear hy
          go_wp2_with (at_builtin; refine wpList_appY elmA gA_one rfl (.tmp 51) (.tmp 53) rfl (.slice Ap (partL t (L.take k)).length cp) (partL t (L.take k)) rfl (HOUT.out.alloc _) [a.cut t] y HY rfl (by rw [HEL.out]; exact Sl.fresh' _ #[_, _, _, _, _] 32 5 1 _ (by simp) rfl) rfl (by rw [HYL.out]; simp only [maxLen]; omega) (by rw [HYL.out]; omega) ?_; intro A7 c7 w7 hc7 hc8 O7 G7 _)
          have HNEW := hid (show Ow w1 w7 32 5 gA (.slice A7 (partL t (L.take (k + 1))).length c7) (partL t (L.take (k + 1))) from by
            rw [part_next t HX.out, if_pos HLE2.out, HY.out]; exact O7.out)
          have HLN := hid (show y.length = (partL t (L.take (k + 1))).length by rw [part_next t HX.out, if_pos HLE2.out, HY.out])
          rw [HLN.out]
          clear O7 G7
          go_roundw
          case rel => exact ⟨k + 1, A7, c7, by omega, rfl, by go_num, HNEW⟩
          case measure => simp [intOf]; omega
        · have HE := hid he
          have q2 : ¬ (t < a.e) := he
          clear he
          have HEL := hid (show a.cut t = ⟨a.b, a.e, a.put, a.val, a.by_⟩ from by unfold LA.cut; rw [if_neg HE.out])
          have HOUT := hid (HR.out.step (show Below wr.heap.size wr (wr.alloc (.cells #[.int .i64 a.b, .int .i64 a.e, .bool a.put, .int .i64 a.val, .int .i64 a.by_] 32)) from bnew (bnil wr) _))
          obtain ⟨y, hy⟩ : ∃ y, partL t (L.take k) ++ [a.cut t] = y := ⟨_, rfl⟩
          have HY := hid hy
          have HYL := hid (show y.length = (partL t (L.take k)).length + 1 by rw [← hy, List.length_append]; rfl)
          have hpl := part_len t (L.take k)
          rw [List.length_take] at hpl
          clear hy
          go_wp2_with (at_builtin; refine wpList_appY elmA gA_one rfl (.tmp 51) (.tmp 53) rfl (.slice Ap (partL t (L.take k)).length cp) (partL t (L.take k)) rfl (HOUT.out.alloc _) [a.cut t] y HY rfl (by rw [HEL.out]; exact Sl.fresh' _ #[_, _, _, _, _] 32 5 1 _ (by simp) rfl) rfl (by rw [HYL.out]; simp only [maxLen]; omega) (by rw [HYL.out]; omega) ?_; intro A7 c7 w7 hc7 hc8 O7 G7 _)
          have HNEW := hid (show Ow w1 w7 32 5 gA (.slice A7 (partL t (L.take (k + 1))).length c7) (partL t (L.take (k + 1))) from by
            rw [part_next t HX.out, if_pos HLE2.out, HY.out]; exact O7.out)
          have HLN := hid (show y.length = (partL t (L.take (k + 1))).length by rw [part_next t HX.out, if_pos HLE2.out, HY.out])
          rw [HLN.out]
          clear O7 G7
          go_roundw
          case rel => exact ⟨k + 1, A7, c7, by omega, rfl, by go_num, HNEW⟩
          case measure => simp [intOf]; omega
      · have HGT := hid hb
        have q1 : t < a.b := by omega
        clear hb
        have HNE := hid (part_next t HX.out)
        go_wp2_with fail
        go_roundw
        case rel => exact ⟨k + 1, Ap, cp, by omega, by rw [HNE.out, if_neg HGT.out], by go_num, hid (by rw [HNE.out, if_neg HGT.out]; exact HR.out)⟩
        case measure => simp [intOf]; omega
    · obtain rfl : k = m := by omega
      have hall : L.take k = L := List.take_of_length_le (by rw [HLL.out]; exact Nat.le_refl _)
      rw [hall] at HR ⊢
      have hpl := part_len t L
      have hlin := seq_part t (ds.take 9) (LO.init kd f) (init_small hk4 HF.out) (by rw [List.length_take]; omega)
      rw [HLE.out] at hlin
      have HLIN := hid hlin
      rw [HLL.out] at hpl
      clear hlin hall
      go_wp2_with fail
      refine (lin_checkK _ kd f Ap (partL t L).length cp _ _ (by omega) hk4 (by omega) HR.out.sl rfl (part_may HLM.out)).mono ?_
      rintro e w4 ⟨b4, rfl, hb4, z4⟩
      obtain rfl : b4 = true := hb4.2 HLIN.out
      have B4 := hid (bgo B1.out (bgo HR.out.below z4))
      clear hb4 z4
      go_wp2_with fail
      refine (lin_sure _).mono ?_
      rintro e w9 ⟨rfl, z9⟩
      have B9 := hid (bgo B4.out z9)
      clear z9
      go_wp2_with fail
      go_ret
      exact ⟨rfl, B9.out⟩
end Go.Proofs.Ytfdgklfkpofkeaa
