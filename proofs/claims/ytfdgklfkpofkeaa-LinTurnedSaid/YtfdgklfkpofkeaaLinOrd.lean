/-
  LinOrders: its walk.
-/
import Derived.Test.YtfdgklfkpofkeaaLnSq
namespace Go.Proofs.Ytfdgklfkpofkeaa
open Go.RowKit Go.Maps
set_option linter.unusedVariables false

theorem seq_ofK (K : Int) (kd : Nat) (first : Int) (wide : Bool) (A : Option Addr) (n c : Nat) (ds : List VDeal) (w : World) (hK : K = (kd : Int) + 1) (hk : kd < 4) (hf : 0 ≤ first ∧ first ≤ 4) (h : DealsAt w A n ds) :
    Calls Try.prog 13 #[.int .i64 K, .int .i64 first, .slice A n c, .bool wide] w fun e w' => ∃ A' c', e = .returned (.slice A' (min n 9) c') ∧ Ow w w' 32 5 gA (.slice A' (min n 9) c') (seqL wide (LO.init kd first) 0 (ds.take 9)) := by
  subst hK; exact seq_of kd first wide A n c ds w hk hf h
theorem lin_checkK (K : Int) (kd : Nat) (first : Int) (A : Option Addr) (n c : Nat) (l : List LA) (w : World) (hK : K = (kd : Int) + 1) (hk : kd < 4) (hn : n ≤ 9) (h : Sl w 5 A n (l.flatMap gA)) (hl : l.length = n) (hm : ∀ a ∈ l, LMayC kd a) :
    Calls Try.prog 12 #[.int .i64 K, .int .i64 first, .slice A n c] w fun e w' => CheckPost w l (LO.init kd first) e w' := by
  subst hK; exact lin_check kd first A n c l w hk hn h hl hm
/-- all that is asked of a told history -/
structure Told9 (w : World) (wide : Bool) (kd : Nat) (first : Int) (ds : List VDeal) (m : Nat) (A : Option Addr) : Prop where
  m9 : m ≤ 9
  sl : Sl w 5 A m ((seqL wide (LO.init kd first) 0 (ds.take 9)).flatMap gA)
  len : (seqL wide (LO.init kd first) 0 (ds.take 9)).length = m
  may : ∀ a ∈ seqL wide (LO.init kd first) 0 (ds.take 9), LMayC kd a
theorem told9 {w w' : World} {wide : Bool} {kd : Nat} {first : Int} {n c : Nat} {A' A : Option Addr} {ds : List VDeal} (hk : kd < 4) (hf : 0 ≤ first ∧ first ≤ 4) (h : DealsAt w A n ds) (ho : Ow w w' 32 5 gA (.slice A' (min n 9) c) (seqL wide (LO.init kd first) 0 (ds.take 9))) : Told9 w' wide kd first ds (min n 9) A' := by
  refine ⟨by omega, ho.sl, ?_, fun a ha => ?_⟩
  · rw [seqL_length, List.length_take, h.len]; omega
  · have := seqL_may (init_small hk hf) (by rw [List.length_take]; omega) ha
    rw [init_kd hk] at this
    exact this
theorem Told9.below {w w' : World} {wide : Bool} {kd : Nat} {first : Int} {ds : List VDeal} {m : Nat} {A : Option Addr} (h : Told9 w wide kd first ds m A) (hb : Below w.heap.size w w') : Told9 w' wide kd first ds m A := ⟨h.m9, h.sl.below hb, h.len, h.may⟩
theorem told_lin {wide : Bool} {kd : Nat} {first : Int} {ds : List VDeal} (hk : kd < 4) (hf : 0 ≤ first ∧ first ≤ 4) : LinR (seqL wide (LO.init kd first) 0 (ds.take 9)) (LO.init kd first) := by
  have := seqL_lin wide (ds.take 9) (LO.init kd first) (init_small hk hf) (by rw [List.length_take]; omega) [] (by simp)
  rwa [List.append_nil] at this
set_option maxRecDepth 100000 in
set_option maxHeartbeats 4000000 in
theorem law_linOrders (a0 a1 : Int) (A : Option Addr) (n c : Nat) (ds : List VDeal) (w : World) (p0 : -9223372036854775808 ≤ a0) (p1 : a0 ≤ 9223372036854775807) (p2 : -9223372036854775808 ≤ a1) (p3 : a1 ≤ 9223372036854775807)
    (hn : n ≤ c) (hc : c ≤ maxLen) (hz : c * 40 ≤ 140737488351232) (hS : Sl w 5 A n (ds.flatMap gD)) (hok : ∀ x ∈ ds, I64 x.val ∧ I64 x.early ∧ I64 x.late) :
    Calls Try.prog 3 #[.int .i64 a0, .int .i64 a1, .slice A n c] w fun e w' => e = .returned (.bool true) ∧ Below w.heap.size w w' := by
  have H := hid (show DealsAt w A n ds from ⟨by have := hS.1; rw [flatMap_len gD 5 (fun _ => rfl)] at this; omega, hS, hok⟩)
  clear hS hok hz
  obtain ⟨kd, hkd⟩ : ∃ kd, pk a0 4 = kd := ⟨_, rfl⟩
  obtain ⟨f, hf⟩ : ∃ f, (pk a1 5 : Int) = f := ⟨_, rfl⟩
  have hk4 : kd < 4 := by have := pk_lt a0 4 (by decide); omega
  have HF := hid (show 0 ≤ f ∧ f ≤ 4 by have := pk_lt a1 5 (by decide); omega)
  have HKD := hid hkd
  have HFE := hid hf
  clear hkd hf
  go_enter Try.func3, Try.ntmps3
  go_wp2_with fail
  refine (picked a0 4 _ (by omega) p0 p1 (by omega)).mono ?_
  rintro e w1 ⟨rfl, rfl⟩
  rw [HKD.out]
  go_wp2_with fail
  refine (picked a1 5 _ (by omega) p2 p3 (by omega)).mono ?_
  rintro e w1 ⟨rfl, rfl⟩
  rw [HFE.out]
  go_wp2_with fail
  refine (seq_ofK _ kd f false A n c ds _ (by omega) hk4 HF.out H.out).mono ?_
  rintro e w1 ⟨A1, c1, rfl, o1⟩
  have T1 := hid (told9 hk4 HF.out H.out o1)
  have B1 := hid o1.below
  obtain ⟨m, hm⟩ : ∃ m, min n 9 = m := ⟨_, rfl⟩
  rw [hm] at T1
  rw [hm]
  have HM := hid hm
  clear o1 hm
  go_wp2_with fail
  refine (lin_checkK _ kd f A1 m c1 _ _ (by omega) hk4 T1.out.m9 T1.out.sl T1.out.len T1.out.may).mono ?_
  rintro e w2 ⟨b2, rfl, hb2, z2⟩
  obtain rfl : b2 = true := hb2.2 (told_lin hk4 HF.out)
  have B2 := hid (bgo B1.out z2)
  clear hb2 z2
  go_wp2_with fail
  refine (seq_ofK _ kd f true A n c ds _ (by omega) hk4 HF.out (H.out.below B2.out)).mono ?_
  rintro e w3 ⟨A3, c3, rfl, o3⟩
  have T3 := hid (told9 hk4 HF.out (H.out.below B2.out) o3)
  have B3 := hid (bgo B2.out o3.below)
  rw [HM.out] at T3
  rw [HM.out]
  clear o3
  go_wp2_with fail
  refine (lin_checkK _ kd f A3 m c3 _ _ (by omega) hk4 T3.out.m9 T3.out.sl T3.out.len T3.out.may).mono ?_
  rintro e w4 ⟨b4, rfl, hb4, z4⟩
  obtain rfl : b4 = true := hb4.2 (told_lin hk4 HF.out)
  have B4 := hid (bgo B3.out z4)
  clear hb4 z4
  go_wp2_with fail
  refine (lin_sure _).mono ?_
  rintro e w5 ⟨rfl, z5⟩
  have B5 := hid (bgo B4.out z5)
  clear z5
  go_wp2_with fail
  go_ret
  exact ⟨rfl, B5.out⟩
end Go.Proofs.Ytfdgklfkpofkeaa
