/-
  quant.Guess and GuessNear: their walks.
-/
import Derived.Test.YtifpnfhmemdljaaGuess0
namespace Go.Proofs.Ytifpnfhmemdljaa
open Go.RowKit
set_option linter.unusedVariables false

theorem wrap_rk {x : Int} (h0 : -1000000000 ≤ x) (h1 : x ≤ 1000000000) : wrap64 x = x := by unfold wrap64; omega
/-- what Guess comes to -/
def GuessPost (bs vs : List Int) (o p : Nat) (w : World) (e : Ending) (w' : World) : Prop :=
  ∃ v er : Int, e = .returned (.tuple #[.int .i64 v, .int .i64 er]) ∧ Below w.heap.size w w' ∧
    ((er = 0 ∧ ∃ i, bs[i]? = some v ∧ (∀ j, j < i → gsum bs vs (j + 1) * o < p * vs.length) ∧ p * vs.length ≤ gsum bs vs (i + 1) * o) ∨
     (er = 11 ∧ v = 0 ∧ ∀ j, j < bs.length → gsum bs vs (j + 1) * o < p * vs.length))
theorem cts_cnt (bs vs : List Int) (hb : bs.length ≤ 15) (hv : vs.length ≤ 1000) : CntIn (cts bs vs) := by
  have h := cts_bd bs vs
  refine ⟨by rw [cts_len]; omega, by rw [cts_len]; omega, fun x hx => ?_⟩
  have := h x hx; omega
set_option maxHeartbeats 2000000 in
theorem quant_Guess (A B : Option Addr) (n c m d : Nat) (bs vs : List Int) (o p : Nat) (w : World) (hI : BdIn bs) (hm : m = n + 1) (hA : Sl w 1 A n (ints bs)) (hB : Sl w 1 B m (ints (cts bs vs)))
    (h1 : 1 ≤ vs.length) (hv : vs.length ≤ 1000) (ho1 : 1 ≤ o) (ho : o ≤ 1000) (hp : p ≤ o) :
    Calls Try.prog 9 #[.slice A n c, .slice B m d, .int .i64 (p : Int), .int .i64 (o : Int)] w fun e w' => GuessPost bs vs o p w e w' := by
  subst hm
  have HA := hid hA; have HB := hid hB; have HI := hid hI
  have HLA := hid hA.leni
  have hn15 := hI.len
  rw [HLA.out] at hn15
  have HCC := hid (cts_cnt bs vs hI.len hv)
  have HSUM := hid (cts_sum bs vs)
  have HBD := hid (cts_bd bs vs)
  have HTK := hid (gsum_take bs vs)
  have HLE := hid (gsum_le bs vs)
  obtain ⟨V, hV⟩ : ∃ V, vs.length = V := ⟨_, rfl⟩
  have HV := hid hV
  rw [hV] at h1 hv HSUM HBD HLE
  obtain ⟨cc, hcc⟩ : ∃ cc, cts bs vs = cc := ⟨_, rfl⟩
  have HCL := hid (show cc.length = n + 1 by rw [← hcc, cts_len, HLA.out])
  rw [hcc] at HB HCC HSUM HBD HTK
  clear hA hB hI hcc hV
  have e1 : (((n : Int) + 1) != ((n : Int) + 1)) = false := by simp
  go_enter Try.func9, Try.ntmps9
  go_wp2_with fail
  refine (quant_bounded A n c bs w HA.out HI.out).mono ?_
  rintro e w2 ⟨rfl, hb2⟩
  have B2 := hid hb2; clear hb2
  go_wp2_with fail
  refine (quant_counted B (n + 1) d cc w2 (HB.out.below B2.out) HCC.out).mono ?_
  rintro e w3 ⟨rfl, hb3⟩
  have B3 := hid (bgo B2.out hb3); clear hb3
  go_wp2_with fail
  refine (rank_share o p w3 ho1 (by omega) hp).mono ?_
  rintro e w' ⟨rfl, rfl⟩
  go_wp2_with fail
  go_loopw [10, 40] (fun s i wr => ∃ (k : Nat) (S : Int), k ≤ n + 1 ∧ i = .int .i64 k ∧ s = .int .i64 S ∧ Hid (S = (cc.take k).sum) ∧ 0 ≤ S ∧ S ≤ 1000 * (k : Int) ∧ Hid (Below w3.heap.size w3 wr)) (fun _ i _ => n + 1 - (intOf i).toNat)
  case atStart => exact ⟨0, 0, Nat.zero_le _, rfl, rfl, hid rfl, Int.le_refl _, by simp, hid (bnil _)⟩
  case round =>
    obtain ⟨k, S, hk, rfl, rfl, HS, hs1, hs2, BR⟩ := hrel
    by_cases hlt : k < n + 1
    · obtain ⟨ad, u, rfl, hu, c0⟩ := (HB.out.below (bgo B3.out BR.out)).ati hlt
      obtain ⟨u1, u2⟩ := HBD.out u (List.mem_of_getElem? hu)
      have HS2 := hid (show S + u = (cc.take (k + 1)).sum by rw [take_next hu, List.sum_append_int, HS.out]; simp)
      have i1 : (k : Int) < (n : Int) + 1 := by omega
      have e2 : wrap64 (S + u) = S + u := IntWalk.wrap64_in _ ⟨by omega, by omega⟩
      have e3 : IntKind.i64.wrap (S + u) = S + u := IntWalk.i64_in _ (by omega)
      have hs3 : 0 ≤ S + u := by omega
      have hs4 : S + u ≤ 1000 * ((k + 1 : Nat) : Int) := by omega
      have HS3 := hid hs3; have HS4 := hid hs4
      clear hu u1 u2 hs3 hs4
      go_wp2_with fail
      go_roundw
      case rel => exact ⟨k + 1, S + u, by omega, by go_num, rfl, HS2, HS3.out, HS4.out, BR⟩
      case measure => simp [intOf]; omega
    · obtain rfl : n + 1 = k := by omega
      have i1 : ¬ ((n : Int) + 1) < (n : Int) + 1 := by omega
      obtain rfl : S = (V : Int) := by rw [HS.out, List.take_of_length_le (by rw [HCL.out]; exact Nat.le_refl _)]; exact HSUM.out
      have iV : ¬ ((V : Int) = 0) := by omega
      have B4 := hid (bgo B3.out BR.out)
      clear hs1 hs2 HS HSUM BR
      obtain ⟨PV, hPV⟩ : ∃ PV, p * V = PV := ⟨_, rfl⟩
      have hPV2 : PV ≤ 1000000 := by rw [← hPV]; exact Nat.mul_le_mul (show p ≤ 1000 by omega) hv
      have HPV := hid hPV
      have ePV : (p : Int) * (V : Int) = (PV : Int) := by rw [← hPV]; simp
      clear hPV
      go_wp2_with fail
      go_loopw [13, 52] (fun s i wz => ∃ (k S : Nat), k ≤ n ∧ S ≤ V ∧ i = .int .i64 k ∧ s = .int .i64 S ∧ Hid (S = gsum bs vs k) ∧ Hid (∀ j, j < k → gsum bs vs (j + 1) * o < PV) ∧ Hid (Below wr.heap.size wr wz)) (fun _ i _ => n - (intOf i).toNat)
      case atStart => exact ⟨0, 0, Nat.zero_le _, Nat.zero_le _, rfl, rfl, hid (by unfold gsum; simp), hid (fun j h => absurd h (by omega)), hid (bnil _)⟩
      case round =>
        obtain ⟨k, S, hk, hS, rfl, rfl, HS, HJ, BZ⟩ := hrel
        by_cases hlt : k < n
        · obtain ⟨ad, b, rfl, hb, cb⟩ := (HA.out.below (bgo B4.out BZ.out)).ati hlt
          obtain ⟨ad2, u, rfl, hu, cu⟩ := (HB.out.below (bgo B4.out BZ.out)).ati (k := k) (by omega)
          obtain ⟨S2, hS2⟩ : ∃ S2, gsum bs vs (k + 1) = S2 := ⟨_, rfl⟩
          have hS2V : S2 ≤ V := by rw [← hS2]; exact HLE.out (k + 1)
          have hu2 : u = (S2 : Int) - (S : Int) := by
            have a1 := HTK.out (k + 1) (by rw [HLA.out]; omega)
            have a2 := HTK.out k (by rw [HLA.out]; omega)
            rw [take_next hu, List.sum_append_int, a2, hS2, ← HS.out] at a1
            simp at a1; omega
          subst hu2
          have es : (S : Int) + ((S2 : Int) - (S : Int)) = (S2 : Int) := by omega
          obtain ⟨SO, hSO⟩ : ∃ SO, S2 * o = SO := ⟨_, rfl⟩
          have hSO2 : SO ≤ 1000000 := by rw [← hSO]; exact Nat.mul_le_mul (show S2 ≤ 1000 by omega) ho
          have eSO : (S2 : Int) * (o : Int) = (SO : Int) := by rw [← hSO]; simp
          have i1 : (k : Int) < (n : Int) := by omega
          have HS2 := hid hS2; have HSO := hid hSO; have HBB := hid hb
          clear hb hu hS2 hSO
          by_cases hge : PV ≤ SO
          · have i2 : (PV : Int) ≤ (SO : Int) := by omega
            go_wp2_with fail
            go_ret2
            exact ⟨b, 0, rfl, bgo B4.out BZ.out, .inl ⟨rfl, k, HBB.out, by rw [HV.out, HPV.out]; exact HJ.out, by rw [HV.out, HPV.out, HS2.out, HSO.out]; exact hge⟩⟩
          · have i2 : ¬ ((PV : Int) ≤ (SO : Int)) := by omega
            have HJ2 := hid (show ∀ j, j < k + 1 → gsum bs vs (j + 1) * o < PV from fun j hj => by
              by_cases e : j = k
              · subst e; rw [HS2.out, HSO.out]; omega
              · exact HJ.out j (by omega))
            go_wp2_with fail
            go_roundw
            case rel => exact ⟨k + 1, S2, by omega, hS2V, by go_num, by go_num, hid HS2.out.symm, HJ2, BZ⟩
            case measure => simp [intOf]; omega
        · obtain rfl : n = k := by omega
          have i1 : ¬ (n : Int) < (n : Int) := by omega
          go_wp2_with fail
          go_ret2
          exact ⟨0, 11, rfl, bgo B4.out BZ.out, .inr ⟨rfl, rfl, by rw [HV.out, HPV.out, HLA.out]; exact HJ.out⟩⟩
end Go.Proofs.Ytifpnfhmemdljaa
