/-
  BitsBack: its walk.
-/
import Derived.Test.YtejpcibcllnheaaRead
namespace Go.Proofs.Ytejpcibcllnheaa
open Go.RowKit
set_option linter.unusedVariables false

set_option maxRecDepth 100000 in
set_option maxHeartbeats 2000000 in
theorem law_bitsBack (A : Option Addr) (n c : Nat) (ws : List Int) (B : Option Addr) (m d : Nat) (vs : List Int) (C : Option Addr) (p q : Nat) (ms : List UInt8) (w : World)
    (hn : n ≤ c) (hc : c ≤ maxLen) (_ : c * 8 ≤ 140737488351232) (hA : Sl w 1 A n (ints ws)) (hws : ∀ x ∈ ws, -9223372036854775808 ≤ x ∧ x ≤ 9223372036854775807)
    (hm : m ≤ d) (hd : d ≤ maxLen) (_ : d * 8 ≤ 140737488351232) (hB : Sl w 1 B m (ints vs)) (hvs : ∀ x ∈ vs, -9223372036854775808 ≤ x ∧ x ≤ 9223372036854775807)
    (hp : p ≤ q) (hq : q ≤ maxLen) (_ : q * 1 ≤ 140737488351232) (hC : Sl w 1 C p (byts ms)) :
    Calls Try.prog 10 #[.slice A n c, .slice B m d, .slice C p q] w fun e w' => e = .returned (.bool true) ∧ Below w.heap.size w w' := by
  have HA := hid hA; have HB := hid hB; have HC := hid hC; have HWS := hid hws; have HVS := hid hvs; clear hA hB hC hws hvs
  have hmx : maxLen = 9223372036854775807 := rfl
  go_enter Try.func10, Try.ntmps10
  go_wp2_with fail
  refine (fields_of A B n c m d 40 ws vs w (by omega) (by omega) (by omega) HA.out HB.out HWS.out HVS.out).mono ?_
  rintro e w1 ⟨v1, v2, rfl, ho1, ho2⟩
  obtain ⟨A1, c1, rfl, hx1, hx2⟩ := ho1.form
  obtain ⟨A2, c2, rfl, hx3, hx4⟩ := ho2.form
  have HX := hid ho1; have HW := hid ho2; clear ho1 ho2
  have HF := hid (fieldsOf_ok ws vs 40)
  have hxl : (fieldsOf ws vs 40).length ≤ 40 := by unfold fieldsOf; rw [List.length_mapIdx, List.length_take]; omega
  generalize fieldsOf ws vs 40 = x at *
  obtain ⟨t, hxt⟩ : ∃ t, x.length = t := ⟨_, rfl⟩
  have hwl : (widthsOf x).length = t := by unfold widthsOf; rw [List.length_map]; exact hxt
  rw [hwl] at HW hx3; rw [hxt] at HX hx1 hxl
  go_wp2_with fail
  refine (bits_write _ _ _ x w1 (by omega) HF.out HX.out.sl).mono ?_
  rintro e w2 ⟨va, rfl, hoa⟩
  obtain ⟨A3, c3, rfl, hx5, hx6⟩ := hoa.form
  have HP := hid hoa; clear hoa
  have HPL := hid (show (pack (fieldBits x)).length = ((x.map Prod.fst).sum + 7) / 8 by rw [pack_len, fieldBits_sum])
  have hs : (x.map Prod.fst).sum ≤ 2400 := by rw [← fieldBits_sum]; have := fieldBits_len x (fun f hf => (HF.out f hf).1); omega
  have HRW := hid (reads_written x ms (fun f hf => (HF.out f hf).2))
  have hpl : (pack (fieldBits x)).length ≤ 400 := by rw [HPL.out]; omega
  generalize pack (fieldBits x) = P at *
  obtain ⟨L, hL⟩ : ∃ L, P.length = L := ⟨_, rfl⟩
  rw [hL] at HP HPL hx5 hpl
  have HWD := hid (show widthsOf x = (x.map Prod.fst).map (fun k : Nat => (k : Int)) by unfold widthsOf; rw [List.map_map]; rfl)
  have HK := hid (show ∀ k ∈ x.map Prod.fst, k ≤ 60 by intro k hk; obtain ⟨f, hf, rfl⟩ := List.mem_map.1 hk; exact (HF.out f hf).1)
  have hkl : (x.map Prod.fst).length = t := by rw [List.length_map]; exact hxt
  rw [HWD.out] at HW
  clear HWD hwl
  generalize x.map Prod.fst = ks at *
  have HW2 := hid (HW.out.step HP.out.below)
  go_wp2_with fail
  go_loopw [11, 12] (fun s i wr => ∃ j : Nat, j ≤ t ∧ i = .int .i64 j ∧ s = .int .i64 ((ks.take j).sum : Int) ∧ Below w2.heap.size w2 wr) (fun _ i _ => t - (intOf i).toNat)
  case atStart => exact ⟨0, Nat.zero_le _, rfl, rfl, bnil _⟩
  case round =>
    obtain ⟨j, hj, rfl, rfl, hb⟩ := hrel
    have HBr := hid hb; clear hb
    by_cases hlt : j < t
    · obtain ⟨ad, y, rfl, hy, c0⟩ := (HW2.out.step HBr.out).sl.ati hlt
      obtain ⟨k, hk, rfl⟩ : ∃ k : Nat, ks[j]? = some k ∧ y = (k : Int) := by
        rw [List.getElem?_map] at hy
        obtain ⟨k, h1, h2⟩ := Option.map_eq_some_iff.1 hy
        exact ⟨k, h1, h2.symm⟩
      have hk60 := HK.out k (List.mem_of_getElem? hk)
      have HSM := hid (show (ks.take (j + 1)).sum = (ks.take j).sum + k by rw [take_next hk, List.sum_append_nat]; simp)
      have hsum : (ks.take j).sum ≤ 2400 := by
        have h1 : (ks.take j).sum + (ks.drop j).sum = ks.sum := by rw [← List.sum_append_nat, List.take_append_drop]
        omega
      clear hy hk
      generalize (ks.take j).sum = z at *
      have i1 : (j : Int) < (t : Int) := by omega
      go_wp2
      go_roundw
      case rel => exact ⟨j + 1, by omega, by go_num, by rw [HSM.out]; go_num, HBr.out⟩
      case measure => simp [intOf] <;> omega
    · have E := hid (show ks.take j = ks from List.take_of_length_le (by omega))
      rw [E.out]
      have i1 : ¬ (j : Int) < (t : Int) := by omega
      obtain ⟨P2, hP2⟩ : ∃ P2, P ++ ms = P2 := ⟨_, rfl⟩
      have hms := HC.out.lenb
      have hp2l : P2.length = L + p := by rw [← hP2, List.length_append, hL, hms]
      have HP2 := hid hP2; clear hP2
      have HPr := hid (HP.out.step HBr.out)
      have HC2 := hid (HC.out.below (bgo HX.out.below (bgo HP.out.below HBr.out)))
      go_wp2_with (first
        | (at_builtin; refine wpList_appY elmB gB_one rfl (.const (.slice none 0 0)) (.tmp 43) rfl (.slice none 0 0) [] rfl (Ow.nil _ _ _ _) P P (hid (List.nil_append _)) rfl HPr.out.sl hL (by simp only [maxLen]; omega) (by omega) ?_; intro A4 c4 w4 _ _ HN1 _ _; rw [hL] at HN1)
        | (at_builtin; refine wpList_appY elmB gB_one rfl (.tmp 44) (.tmp 45) rfl (.slice A4 _ c4) P rfl HN1.out ms P2 HP2 rfl (HC2.out.below HN1.out.below) hms (by simp only [maxLen]; omega) (by omega) ?_; intro A5 c5 w5 _ _ HN2 _ _))
      rw [hp2l] at HN2
      have HW5 := hid (bgo HBr.out HN2.out.below)
      have HWr := hid (HW2.out.step HW5.out)
      refine (bits_read A5 (L + p) c5 P2 A2 t c2 ks w5 (by omega) (by omega) HK.out (by have := HPL.out; omega) HN2.out.sl HWr.out.sl).mono ?_
      rintro e w6 ⟨v6, rfl, ho6⟩
      rw [← HP2.out, HRW.out] at ho6
      obtain ⟨A6, c6, rfl, hx7, hx8⟩ := ho6.form
      have hrl : (x.map fun f => (f.2 : Int)).length = t := by rw [List.length_map]; exact hxt
      rw [hrl] at ho6 hx7
      have HO6 := hid ho6; clear ho6
      go_wp2_with fail
      refine (bits_write _ _ _ [(1, 1)] _ (by omega) (by decide) (Sl.fresh _ #[.int .i64 1, .int .i64 1] 41 2 1 rfl)).mono ?_
      rintro e w7 ⟨v7, rfl, ho7⟩
      rw [show pack (fieldBits [(1, 1)]) = [128] by decide] at ho7
      obtain ⟨A7, c7, rfl, hx9, hx10⟩ := ho7.form
      have HO7 := hid (bgo (bnew (bnil w6) _) ho7.below); clear ho7
      have e1 : ((ks.sum : Int) != (ks.sum : Int)) = false := by simp
      have e2 : ((t : Int) != (t : Int)) = false := by simp
      have e3 : ((L : Int) != ((ks.sum : Int) + 7) / 8) = false := by have := HPL.out; simp; omega
      have hs0 : ks.sum ≤ 2400 := hs
      go_wp2_with fail
      have HX7 := hid (HX.out.step (bgo HP.out.below (bgo HW5.out (bgo HO6.out.below HO7.out))))
      have HO67 := hid (HO6.out.step HO7.out)
      have HEND := hid (bgo HX.out.below (bgo HP.out.below (bgo HW5.out (bgo HO6.out.below HO7.out))))
      go_loopw [18] (fun i wr' => ∃ u : Nat, u ≤ t ∧ i = .int .i64 u ∧ Below w7.heap.size w7 wr') (fun i _ => t - (intOf i).toNat)
      case atStart => exact ⟨0, Nat.zero_le _, rfl, bnil _⟩
      case round =>
        clear HBr
        obtain ⟨u, hu, rfl, hb⟩ := hrel
        have HBr := hid hb; clear hb
        by_cases hlt : u < t
        · obtain ⟨f, hf⟩ : ∃ f, x[u]? = some f := ⟨_, List.getElem?_eq_getElem (by omega)⟩
          obtain ⟨ad, z, rfl, hz, c0⟩ := (HO67.out.step HBr.out).sl.ati hlt
          obtain rfl : z = (f.2 : Int) := by rw [List.getElem?_map, hf] at hz; injection hz with hz; exact hz.symm
          obtain ⟨b1, rfl⟩ := HX7.out.ad (by omega)
          obtain ⟨d0, _⟩ := (HX7.out.step HBr.out).cellG (g := gF) (j := 1) (fun _ => rfl) hf (u := .int .i64 (f.2 : Int)) rfl
          clear hz hf
          have i1 : (u : Int) < (t : Int) := by omega
          have e5 : ((f.2 : Int) != (f.2 : Int)) = false := by simp
          go_wp2_with fail
          go_quiet (fail)
          go_wp2
          go_roundw
          case rel => exact ⟨u + 1, by omega, by go_num, below_drewN HBr.out _⟩
          case measure => simp [intOf] <;> omega
        · have i1 : ¬ (u : Int) < (t : Int) := by omega
          go_wp2
          go_ret
          exact ⟨rfl, bgo HEND.out HBr.out⟩
end Go.Proofs.Ytejpcibcllnheaa
