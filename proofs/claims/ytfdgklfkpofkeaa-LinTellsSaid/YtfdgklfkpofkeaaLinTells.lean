/-
  LinTells: its walk.
-/
import Derived.Test.YtfdgklfkpofkeaaLinOrd
import Derived.StillTailTactics
namespace Go.Proofs.Ytfdgklfkpofkeaa
open Go.RowKit Go.Maps
set_option linter.unusedVariables false

theorem tell_hi {n : Nat} {o : LO} {p : Bool} {v : Int} (h : o.small n) (hv : 0 ≤ v ∧ v ≤ 3) : (o.tell p v).2.1 ≤ 4 + 3 * (n : Int) := by
  cases o with
  | reg r => obtain ⟨h1, h2⟩ := h; cases p <;> simp [LO.tell] <;> omega
  | ctr c => obtain ⟨h1, h2⟩ := h; cases p <;> exact h2
  | heap last l =>
    obtain ⟨h1, h2⟩ := h
    cases p
    · cases l with
      | nil => show (-1 : Int) ≤ _; omega
      | cons x t =>
        cases last
        · show x ≤ _; have := h2 x List.mem_cons_self; omega
        · show (x :: t).getLastD 0 ≤ _
          rw [List.getLastD_cons, ← List.getLast_eq_getLastD (by simp : x :: t ≠ [])]
          have := h2 _ (List.getLast_mem (by simp : x :: t ≠ [])); omega
    · show v ≤ _; omega
theorem seq_hi (w : Bool) : ∀ (l : List VDeal) (o : LO) (i n j : Nat) (a : LA), o.small n → (seqL w o i l)[j]? = some a → a.val ≤ 4 + 3 * ((n + j : Nat) : Int)
  | [], _, _, _, _, _, _, h => by simp [seqL] at h
  | x :: t, o, i, n, 0, a, hs, h => by
    have h0 : seqAct w i x (o.tell x.put (pk x.val 4)).2.1 (o.tell x.put (pk x.val 4)).2.2 = a := by simpa [seqL] using h
    subst h0
    exact tell_hi hs (pk4 _)
  | x :: t, o, i, n, j + 1, a, hs, h => by
    have := seq_hi w t (o.tell x.put (pk x.val 4)).1 (i + 1) (n + 1) j a (tell_small hs (pk4 _)).1 (by simpa [seqL] using h)
    rw [show n + (j + 1) = n + 1 + j by omega]
    exact this
set_option maxRecDepth 100000 in
set_option maxHeartbeats 16000000 in
theorem law_linTells (a0 a1 : Int) (A : Option Addr) (n c : Nat) (ds : List VDeal) (a3 : Int) (a4 : Int) (w : World) (p0 : -9223372036854775808 ≤ a0) (p1 : a0 ≤ 9223372036854775807) (p2 : -9223372036854775808 ≤ a1) (p3 : a1 ≤ 9223372036854775807)
    (hn : n ≤ c) (hc : c ≤ maxLen) (hz : c * 40 ≤ 140737488351232) (hS : Sl w 5 A n (ds.flatMap gD)) (hok : ∀ x ∈ ds, I64 x.val ∧ I64 x.early ∧ I64 x.late) (lo_a3 : -9223372036854775808 ≤ a3) (hi_a3 : a3 ≤ 9223372036854775807) (lo_a4 : -9223372036854775808 ≤ a4) (hi_a4 : a4 ≤ 9223372036854775807) :
    Calls Try.prog 4 #[.int .i64 a0, .int .i64 a1, .slice A n c, .int .i64 a3, .int .i64 a4] w fun e w' => e = .returned (.bool true) ∧ Below w.heap.size w w' := by
  have H := hid (show DealsAt w A n ds from ⟨by have := hS.1; rw [flatMap_len gD 5 (fun _ => rfl)] at this; omega, hS, hok⟩)
  clear hS hok hz
  obtain ⟨kd, hkd⟩ : ∃ kd, pk a0 4 = kd := ⟨_, rfl⟩
  obtain ⟨f, hf⟩ : ∃ f, (pk a1 5 : Int) = f := ⟨_, rfl⟩
  have hk4 : kd < 4 := by have := pk_lt a0 4 (by decide); omega
  have HF := hid (show 0 ≤ f ∧ f ≤ 4 by have := pk_lt a1 5 (by decide); omega)
  have HKD := hid hkd
  have HFE := hid hf
  clear hkd hf
  go_enter Try.func4, Try.ntmps4
  go_wp2_with fail
  refine (picked a0 4 _ (by omega) p0 p1 (by omega)).mono ?_
  rintro e w1 ⟨rfl, rfl⟩
  rw [HKD.out]
  go_wp2_with fail
  refine (picked a1 5 _ (by omega) p2 p3 (by omega)).mono ?_
  rintro e w1 ⟨rfl, rfl⟩
  rw [HFE.out]
  go_wp2_with fail
  refine (seq_ofK _ kd f false A n c ds _ (by omega) hk4 HF.out H.out).mono ?_
  rintro e w1 ⟨A1, c1, rfl, o1⟩
  obtain ⟨L, hL⟩ : ∃ L, seqL false (LO.init kd f) 0 (ds.take 9) = L := ⟨_, rfl⟩
  obtain ⟨m, hm⟩ : ∃ m, min n 9 = m := ⟨_, rfl⟩
  have t1 := told9 hk4 HF.out H.out o1
  have hm9 := t1.m9
  have hLL := t1.len
  have hLM := t1.may
  rw [hL] at o1 hLL hLM
  rw [hm] at o1 hLL hm9
  rw [hm]
  have O1 := hid o1
  have B1 := hid o1.below
  have HLL := hid hLL
  have HLM := hid hLM
  have HLE := hid hL
  have HML := hid hm
  clear t1 hLL hLM o1 hL hm
  by_cases hm0 : m = 0
  · subst hm0
    go_wp2_with fail
    refine (lin_sure _).mono ?_
    rintro e w9 ⟨rfl, z9⟩
    have B9 := hid (bgo B1.out z9)
    clear z9
    go_wp2_with fail
    go_ret
    exact ⟨rfl, B9.out⟩

  · have i0 : ¬ ((m : Int) = 0) := by omega
    obtain ⟨i, hi⟩ : ∃ i, pk a3 (m : Int) = i := ⟨_, rfl⟩
    have him : i < m := by have := pk_lt a3 (m : Int) (by omega); omega
    obtain ⟨a, ha⟩ : ∃ a, L[i]? = some a := ⟨_, List.getElem?_eq_getElem (by rw [HLL.out]; exact him)⟩
    obtain ⟨b, rfl⟩ := O1.out.ad (by rw [HLL.out]; omega)
    have g2 := (O1.out.cellG (g := gA) (j := 2) (fun _ => rfl) ha rfl).1
    have g3 := O1.out.cellG (g := gA) (j := 3) (fun _ => rfl) ha rfl
    have g3c := g3.1
    have g3f := g3.2
    have HI := hid hi
    have HA := hid ha
    clear hi g3 ha
    have i1 : (i : Int) < (m : Int) := by omega
    have hsm := init_small hk4 HF.out
    have hget := HA.out
    rw [← HLE.out] at hget
    obtain ⟨hl1, hl2, hl3, hl4⟩ := seqL_get false (ds.take 9) (LO.init kd f) 0 0 i a hsm hget
    rw [init_kd hk4] at hl3 hl4
    have hval : -1 ≤ a.val ∧ a.val ≤ 1000000 := by
      refine ⟨hl2, ?_⟩
      have := seq_hi false (ds.take 9) (LO.init kd f) 0 0 i a hsm hget
      omega
    have HVAL := hid hval
    go_wp2_with fail
    refine (picked a3 (m : Int) _ (by omega) lo_a3 hi_a3 (by omega)).mono ?_
    rintro e w2 ⟨rfl, rfl⟩
    rw [HI.out]
    obtain ⟨x5, hx5⟩ : ∃ x5 : Int, (pk a4 5 : Int) = x5 := ⟨_, rfl⟩
    have h50 : 0 ≤ x5 := by omega
    have h51 : x5 ≤ 4 := by have := pk_lt a4 5 (by decide); omega
    have HX5 := hid hx5
    have v0 := HVAL.out.1
    have v1 := HVAL.out.2
    clear hget hl1 hl2 hval hx5
    have HPUT := hid (fun (hp : a.put = true → kd = 1) (w3 : World) (z3 : Below w.heap.size w w3) (o3 : Ow w w3 32 5 gA (.slice (some ⟨b, 0, none⟩) m c1) (L.set i (a.more (1 + x5)))) => show Calls Try.prog 12 #[.int .i64 (1 + (kd : Int)), .int .i64 f, .slice (some ⟨b, 0, none⟩) m c1] w3 fun e w' => e = .returned (.tuple #[.bool false, .int .i64 0]) ∧ Below w3.heap.size w3 w' from by
      refine (lin_checkK _ kd f (some ⟨b, 0, none⟩) m c1 (L.set i (a.more (1 + x5))) w3 (by omega) hk4 hm9 o3.sl (by rw [List.length_set]; exact HLL.out) (fun x hx => ?_)).mono ?_
      · rcases List.mem_or_eq_of_mem_set hx with hx | rfl
        · exact HLM.out x hx
        · obtain ⟨m1, m2, m3, m4, m5⟩ := HLM.out a (List.mem_of_getElem? HA.out)
          refine ⟨m1, m2, m3, m4, fun h2 h3 => ?_⟩
          have h4 : (a.more (1 + x5)).val = a.val + (1 + x5) := rfl
          omega
      · rintro e w' ⟨bb, rfl, hb, z⟩
        have hno : ¬ LinR (L.set i (a.more (1 + x5))) (LO.init kd f) := by
          have := seq_tells (ds.take 9) (LO.init kd f) hsm (by rw [List.length_take]; omega) (i := i) (a := a) (x := 1 + x5) (by omega) (by rw [HLE.out]; exact HA.out) (by rw [init_kd hk4]; exact hp)
          rw [HLE.out] at this
          exact this
        have hbf : bb = false := by cases bb <;> first | rfl | exact absurd (hb.1 rfl) hno
        rw [hbf]
        exact ⟨rfl, z⟩)
    have HSET := hid (show Ow w (w1.drew.setCell ⟨b, i * 5 + 3, none⟩ (.int .i64 (a.val + (1 + x5)))) 32 5 gA (.slice (some ⟨b, 0, none⟩) m c1) (L.set i (a.more (1 + x5))) from
      O1.out.drew.setG (g := gA) (fun _ => rfl) HA.out (by decide) rfl)
    clear hsm HVAL
    have HP1 : Hid (a.put = true → kd = 1) ∨ (a.put = true ∧ kd ≠ 1) := by
      by_cases h : kd = 1
      · exact .inl (hid fun _ => h)
      · cases hp : a.put
        · exact .inl (hid fun h => by cases h)
        · exact .inr ⟨rfl, h⟩
    rcases HP1 with HP | ⟨hp, hk⟩
    · have HCK := hid (HPUT.out HP.out)
      cases hap : a.put with
      | false =>
        rw [hap] at g2
        clear hap HPUT
        go_upto_region 9 with fail
        refine wp_still9 11 (by kernel_rfl) (by kernel_rfl) ?_
        simp only [List.take_succ_cons, List.take_zero, List.drop_succ_cons, List.drop_zero]
        repeat still_step
        still_call (pickedS a4 5 x5 _ HX5.out (by omega) lo_a4 hi_a4 (by omega))
        repeat still_step
        refine wpStill_nil ?_
        go_upto_region 10 with fail
        obtain ⟨w3, hw3⟩ : ∃ w3, (w1.setCell ⟨b, i * 5 + 3, none⟩ (.int .i64 (a.val + (1 + x5)))).drew = w3 := ⟨_, rfl⟩
        have O3 := hid (show Ow w w3 32 5 gA (.slice (some ⟨b, 0, none⟩) m c1) (L.set i (a.more (1 + x5))) from by rw [← hw3]; exact HSET.out)
        rw [hw3]
        clear hw3 g2 g3c g3f
        go_wp2_with fail
        refine (HCK.out w3 O3.out.below O3.out).mono ?_
        rintro e w4 ⟨rfl, z4⟩
        have B4 := hid (bgo O3.out.below z4)
        clear z4
        go_wp2_with fail
        refine (lin_sure _).mono ?_
        rintro e w9 ⟨rfl, z9⟩
        have B9 := hid (bgo B4.out z9)
        clear z9
        go_wp2_with fail
        go_ret
        exact ⟨rfl, B9.out⟩
      | true =>
        rw [hap] at g2
        have q1 : ((1 + (kd : Int)) != 2) = false := by have := HP.out hap; subst this; rfl
        clear hap HPUT
        go_upto_region 9 with fail
        refine wp_still9 11 (by kernel_rfl) (by kernel_rfl) ?_
        simp only [List.take_succ_cons, List.take_zero, List.drop_succ_cons, List.drop_zero]
        repeat still_step
        still_call (pickedS a4 5 x5 _ HX5.out (by omega) lo_a4 hi_a4 (by omega))
        repeat still_step
        refine wpStill_nil ?_
        go_upto_region 10 with fail
        obtain ⟨w3, hw3⟩ : ∃ w3, (w1.setCell ⟨b, i * 5 + 3, none⟩ (.int .i64 (a.val + (1 + x5)))).drew = w3 := ⟨_, rfl⟩
        have O3 := hid (show Ow w w3 32 5 gA (.slice (some ⟨b, 0, none⟩) m c1) (L.set i (a.more (1 + x5))) from by rw [← hw3]; exact HSET.out)
        rw [hw3]
        clear hw3 g2 g3c g3f
        go_wp2_with fail
        refine (HCK.out w3 O3.out.below O3.out).mono ?_
        rintro e w4 ⟨rfl, z4⟩
        have B4 := hid (bgo O3.out.below z4)
        clear z4
        go_wp2_with fail
        refine (lin_sure _).mono ?_
        rintro e w9 ⟨rfl, z9⟩
        have B9 := hid (bgo B4.out z9)
        clear z9
        go_wp2_with fail
        go_ret
        exact ⟨rfl, B9.out⟩
    · rw [hp] at g2
      have q1 : ((1 + (kd : Int)) != 2) = true := by simp; omega
      clear hp HPUT
      go_wp2_with fail
      refine (lin_sure _).mono ?_
      rintro e w9 ⟨rfl, z9⟩
      have B9 := hid (bgo B1.out z9)
      clear z9
      go_wp2_with fail
      go_ret
      exact ⟨rfl, B9.out⟩
end Go.Proofs.Ytfdgklfkpofkeaa
