/-
  LinOpen: its walk.
-/
import Derived.Test.YtfdgklfkpofkeaaLinOrd
namespace Go.Proofs.Ytfdgklfkpofkeaa
open Go.RowKit Go.Maps
set_option linter.unusedVariables false

set_option maxRecDepth 100000 in
set_option maxHeartbeats 16000000 in
theorem law_linOpen (a0 a1 : Int) (A : Option Addr) (n c : Nat) (ds : List VDeal) (a3 : Int) (bp : Bool) (a5 : Int) (w : World) (p0 : -9223372036854775808 ≤ a0) (p1 : a0 ≤ 9223372036854775807) (p2 : -9223372036854775808 ≤ a1) (p3 : a1 ≤ 9223372036854775807)
    (hn : n ≤ c) (hc : c ≤ maxLen) (hz : c * 40 ≤ 140737488351232) (hS : Sl w 5 A n (ds.flatMap gD)) (hok : ∀ x ∈ ds, I64 x.val ∧ I64 x.early ∧ I64 x.late) (lo_a3 : -9223372036854775808 ≤ a3) (hi_a3 : a3 ≤ 9223372036854775807) (lo_a5 : -9223372036854775808 ≤ a5) (hi_a5 : a5 ≤ 9223372036854775807) :
    Calls Try.prog 6 #[.int .i64 a0, .int .i64 a1, .slice A n c, .int .i64 a3, .bool bp, .int .i64 a5] w fun e w' => e = .returned (.bool true) ∧ Below w.heap.size w w' := by
  have H := hid (show DealsAt w A n ds from ⟨by have := hS.1; rw [flatMap_len gD 5 (fun _ => rfl)] at this; omega, hS, hok⟩)
  clear hS hok hz
  obtain ⟨kd, hkd⟩ : ∃ kd, pk a0 4 = kd := ⟨_, rfl⟩
  obtain ⟨f, hf⟩ : ∃ f, (pk a1 5 : Int) = f := ⟨_, rfl⟩
  have hk4 : kd < 4 := by have := pk_lt a0 4 (by decide); omega
  have HF := hid (show 0 ≤ f ∧ f ≤ 4 by have := pk_lt a1 5 (by decide); omega)
  have HKD := hid hkd
  have HFE := hid hf
  clear hkd hf
  obtain ⟨m, hm⟩ : ∃ m, min n 8 = m := ⟨_, rfl⟩
  have hm8 : m ≤ 8 := by omega
  have hmn : m ≤ n := by omega
  have hH2 : DealsAt w A m (ds.take m) := ⟨by rw [List.length_take, H.out.len]; omega, H.out.sl.preG (fun _ => rfl) hmn, fun x hx => H.out.ok x (List.mem_of_mem_take hx)⟩
  have H2 := hid hH2
  have HM := hid hm
  have imn : (m : Int) ≤ (n : Int) := by omega
  have imc : (m : Int) ≤ (c : Int) := by omega
  have im0 : (0 : Int) ≤ (m : Int) := by omega
  clear hH2 hm
  obtain ⟨xb, hxb⟩ : ∃ xb : Int, (pk a3 300 : Int) = xb := ⟨_, rfl⟩
  obtain ⟨xv, hxv⟩ : ∃ xv : Int, (pk a5 4 : Int) = xv := ⟨_, rfl⟩
  have HXB := hid hxb
  have HXV := hid hxv
  have HXB2 := hid (show 0 ≤ xb ∧ xb < 300 by have := pk_lt a3 300 (by decide); omega)
  have HXV2 := hid (show 0 ≤ xv ∧ xv < 4 by have := pk_lt a5 4 (by decide); omega)
  clear hxb hxv
  by_cases h8 : (n : Int) ≤ 8
  · obtain rfl : m = n := by have := HM.out; omega
    go_enter Try.func6, Try.ntmps6
    go_wp2_with fail
    refine (picked a0 4 _ (by omega) p0 p1 (by omega)).mono ?_
    rintro e w1 ⟨rfl, rfl⟩
    rw [HKD.out]
    go_wp2_with fail
    refine (picked a1 5 _ (by omega) p2 p3 (by omega)).mono ?_
    rintro e w1 ⟨rfl, rfl⟩
    rw [HFE.out]
    go_wp2_with fail
    refine (seq_ofK _ kd f true A m c (ds.take m) _ (by omega) hk4 HF.out H2.out).mono ?_
    rintro e w1 ⟨A1, c1, rfl, o1⟩
    obtain ⟨L, hL⟩ : ∃ L, seqL true (LO.init kd f) 0 ((ds.take m).take 9) = L := ⟨_, rfl⟩
    have t1 := told9 hk4 HF.out H2.out o1
    have hm9 : min m 9 = m := by omega
    rw [hm9] at o1 t1 ⊢
    have hLL := t1.len
    have hLM := t1.may
    rw [hL] at o1 hLL hLM
    have O1 := hid o1
    have B1 := hid o1.below
    have HLL := hid hLL
    have HLM := hid hLM
    have HLE := hid hL
    clear t1 hLL hLM o1 hL hm9
    go_wp2_with fail
    refine (picked a3 300 _ (by omega) lo_a3 hi_a3 (by omega)).mono ?_
    rintro e w2 ⟨rfl, rfl⟩
    rw [HXB.out]
    go_wp2_with fail
    refine (picked a5 4 _ (by omega) lo_a5 hi_a5 (by omega)).mono ?_
    rintro e w2 ⟨rfl, rfl⟩
    rw [HXV.out]
    obtain ⟨y, hy⟩ : ∃ y, L ++ [(⟨xb, -1, bp, xv, 0⟩ : LA)] = y := ⟨_, rfl⟩
    have HY := hid hy
    have HYL := hid (show y.length = m + 1 by rw [← hy, List.length_append, HLL.out]; rfl)
    have hlin := seqL_lin true ((ds.take m).take 9) (LO.init kd f) (init_small hk4 HF.out) (by rw [List.length_take]; omega) [(⟨xb, -1, bp, xv, 0⟩ : LA)] (by simp)
    rw [HLE.out, hy] at hlin
    have HLIN := hid hlin
    have HYM := hid (show ∀ a ∈ y, LMayC kd a from fun a ha => by
      rw [← hy] at ha
      rcases List.mem_append.1 ha with h | h
      · exact HLM.out a h
      · rw [List.mem_singleton.1 h]
        have h1 := HXB2.out; have h2 := HXV2.out
        exact ⟨h1.1, show xb ≤ 1048576 by omega, .inl rfl, .inl rfl, fun _ h3 => by have : xv < 0 := h3; omega⟩)
    clear hy hlin
    go_wp2_with (at_builtin; refine wpList_appY elmA gA_one rfl (.tmp 31) (.tmp 38) rfl (.slice A1 m c1) L rfl (O1.out.alloc _) [(⟨xb, -1, bp, xv, 0⟩ : LA)] y HY rfl (Sl.fresh' _ #[_, _, _, _, _] 32 5 1 _ rfl rfl) rfl (by rw [HYL.out]; simp only [maxLen]; omega) (by rw [HYL.out]; omega) ?_; intro A7 c7 w7 hc7 hc8 O7 G7 _)
    refine (lin_checkK _ kd f A7 y.length c7 y _ (by omega) hk4 (by rw [HYL.out]; omega) O7.out.sl rfl HYM.out).mono ?_
    rintro e w4 ⟨b4, rfl, hb4, z4⟩
    obtain rfl : b4 = true := hb4.2 HLIN.out
    have B4 := hid (bgo O7.out.below z4)
    clear hb4 z4
    go_wp2_with fail
    refine (lin_sure _).mono ?_
    rintro e w9 ⟨rfl, z9⟩
    have B9 := hid (bgo B4.out z9)
    clear z9
    go_wp2_with fail
    go_ret
    exact ⟨rfl, B9.out⟩

  · have HS8 := hid (show Value.slice A 8 c = Value.slice A m c by rw [show m = 8 by have := HM.out; omega])
    have i8 : (8 : Int) ≤ (c : Int) := by omega
    have i9 : (8 : Int) ≤ (n : Int) := by omega
    go_enter Try.func6, Try.ntmps6
    go_wp2_with fail
    refine (picked a0 4 _ (by omega) p0 p1 (by omega)).mono ?_
    rintro e w1 ⟨rfl, rfl⟩
    rw [HKD.out]
    go_wp2_with fail
    refine (picked a1 5 _ (by omega) p2 p3 (by omega)).mono ?_
    rintro e w1 ⟨rfl, rfl⟩
    rw [HFE.out]
    go_wp2_with fail
    rw [HS8.out]
    refine (seq_ofK _ kd f true A m c (ds.take m) _ (by omega) hk4 HF.out H2.out).mono ?_
    rintro e w1 ⟨A1, c1, rfl, o1⟩
    obtain ⟨L, hL⟩ : ∃ L, seqL true (LO.init kd f) 0 ((ds.take m).take 9) = L := ⟨_, rfl⟩
    have t1 := told9 hk4 HF.out H2.out o1
    have hm9 : min m 9 = m := by omega
    rw [hm9] at o1 t1 ⊢
    have hLL := t1.len
    have hLM := t1.may
    rw [hL] at o1 hLL hLM
    have O1 := hid o1
    have B1 := hid o1.below
    have HLL := hid hLL
    have HLM := hid hLM
    have HLE := hid hL
    clear t1 hLL hLM o1 hL hm9
    go_wp2_with fail
    refine (picked a3 300 _ (by omega) lo_a3 hi_a3 (by omega)).mono ?_
    rintro e w2 ⟨rfl, rfl⟩
    rw [HXB.out]
    go_wp2_with fail
    refine (picked a5 4 _ (by omega) lo_a5 hi_a5 (by omega)).mono ?_
    rintro e w2 ⟨rfl, rfl⟩
    rw [HXV.out]
    obtain ⟨y, hy⟩ : ∃ y, L ++ [(⟨xb, -1, bp, xv, 0⟩ : LA)] = y := ⟨_, rfl⟩
    have HY := hid hy
    have HYL := hid (show y.length = m + 1 by rw [← hy, List.length_append, HLL.out]; rfl)
    have hlin := seqL_lin true ((ds.take m).take 9) (LO.init kd f) (init_small hk4 HF.out) (by rw [List.length_take]; omega) [(⟨xb, -1, bp, xv, 0⟩ : LA)] (by simp)
    rw [HLE.out, hy] at hlin
    have HLIN := hid hlin
    have HYM := hid (show ∀ a ∈ y, LMayC kd a from fun a ha => by
      rw [← hy] at ha
      rcases List.mem_append.1 ha with h | h
      · exact HLM.out a h
      · rw [List.mem_singleton.1 h]
        have h1 := HXB2.out; have h2 := HXV2.out
        exact ⟨h1.1, show xb ≤ 1048576 by omega, .inl rfl, .inl rfl, fun _ h3 => by have : xv < 0 := h3; omega⟩)
    clear hy hlin
    go_wp2_with (at_builtin; refine wpList_appY elmA gA_one rfl (.tmp 31) (.tmp 38) rfl (.slice A1 m c1) L rfl (O1.out.alloc _) [(⟨xb, -1, bp, xv, 0⟩ : LA)] y HY rfl (Sl.fresh' _ #[_, _, _, _, _] 32 5 1 _ rfl rfl) rfl (by rw [HYL.out]; simp only [maxLen]; omega) (by rw [HYL.out]; omega) ?_; intro A7 c7 w7 hc7 hc8 O7 G7 _)
    refine (lin_checkK _ kd f A7 y.length c7 y _ (by omega) hk4 (by rw [HYL.out]; omega) O7.out.sl rfl HYM.out).mono ?_
    rintro e w4 ⟨b4, rfl, hb4, z4⟩
    obtain rfl : b4 = true := hb4.2 HLIN.out
    have B4 := hid (bgo O7.out.below z4)
    clear hb4 z4
    go_wp2_with fail
    refine (lin_sure _).mono ?_
    rintro e w9 ⟨rfl, z9⟩
    have B9 := hid (bgo B4.out z9)
    clear z9
    go_wp2_with fail
    go_ret
    exact ⟨rfl, B9.out⟩

end Go.Proofs.Ytfdgklfkpofkeaa
