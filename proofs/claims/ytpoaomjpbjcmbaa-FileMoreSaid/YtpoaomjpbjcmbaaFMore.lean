/-
  FileMore: its walk.
-/
import Derived.Test.YtpoaomjpbjcmbaaFMath
import Derived.Test.YtpoaomjpbjcmbaaFSame
namespace Go.Proofs.Ytpoaomjpbjcmbaa
open Go.RowKit
set_option linter.unusedVariables false
set_option maxHeartbeats 2000000 in
set_option maxRecDepth 100000 in
theorem law_fileMore (A : Option Addr) (n c : Nat) (ls : List (List UInt8)) (A' : Option Addr) (n' c' : Nat) (ls' : List (List UInt8)) (w : World) (hn : n ≤ c) (hc : c ≤ maxLen) (_ : c * 24 ≤ 140737488351232) (hx : Rin w A n ls) (hn' : n' ≤ c') (hc' : c' ≤ maxLen) (_ : c' * 24 ≤ 140737488351232) (hx' : Rin w A' n' ls') :
    Calls Try.prog 3 #[.slice A n c, .slice A' n' c'] w fun e w' => e = .returned (.bool true) ∧ Below w.heap.size w w' := by
  have HX := hid hx; have HX' := hid hx'; clear hx hx'
  go_enter Try.func3, Try.ntmps3
  go_wp2_with fail
  refine (file_of A n c 40 ls w hn hc (by omega) HX.out).mono ?_
  rintro e w1 ⟨v1, v2, rfl, ho1, hr1⟩
  have hrl := fRecs_len ls 40
  have hrm := fRecs_mem ls 40
  generalize fRecs ls 40 = rs at *
  have hfl := fFile_len rs hrm
  obtain ⟨A1, c1, rfl, hc1, hc2⟩ := ho1.form
  obtain ⟨A2, c2, rfl, hc3, hc4⟩ := hr1.form
  obtain ⟨f, hf⟩ : ∃ f, fFile rs = f := ⟨_, rfl⟩
  obtain ⟨k, hk⟩ : ∃ k, rs.length = k := ⟨_, rfl⟩
  obtain ⟨q, hq⟩ : ∃ q, f.length = q := ⟨_, rfl⟩
  have hk40 : k ≤ 40 := by omega
  rw [hf] at ho1 hc1 hfl hr1
  have hq6 : q ≤ 10000 := by omega
  have HO1 := hid ho1; have HR1 := hid hr1.none_; clear ho1 hr1
  rw [hk] at HR1 hc3 ⊢
  rw [hf]
  rw [hq] at HO1 hc1 ⊢
  have HK := hid hk; have HQ := hid hq; have HRM := hid hrm; have HF := hid hf
  clear hk hq hrl hfl hrm hf
  go_wp2_with fail
  refine (file_of A' n' c' 40 ls' w1 hn' hc' (by omega) (HX'.out.below HO1.out.below)).mono ?_
  rintro e w2 ⟨v1', v2', rfl, ho1, hr1⟩
  have hrl := fRecs_len ls' 40
  have hrm := fRecs_mem ls' 40
  generalize fRecs ls' 40 = qs at *
  have hfl := fFile_len qs hrm
  obtain ⟨B1, d1, rfl, hd1, hd2⟩ := ho1.form
  obtain ⟨B2, d2, rfl, hd3, hd4⟩ := hr1.form
  obtain ⟨g, hf⟩ : ∃ f, fFile qs = f := ⟨_, rfl⟩
  obtain ⟨k', hk⟩ : ∃ k, qs.length = k := ⟨_, rfl⟩
  obtain ⟨q', hq⟩ : ∃ q, g.length = q := ⟨_, rfl⟩
  have hk40' : k' ≤ 40 := by omega
  rw [hf] at ho1 hd1 hfl hr1
  have hq6' : q' ≤ 10000 := by omega
  have HO2 := hid ho1; have HR2 := hid hr1.none_; clear ho1 hr1
  rw [hk] at HR2 hd3 ⊢
  rw [hf]
  rw [hq] at HO2 hd1 ⊢
  have HK' := hid hk; have HQ' := hid hq; have HRM' := hid hrm; have HF' := hid hf
  clear hk hq hrl hfl hrm hf
  obtain ⟨y, hy⟩ : ∃ y, f ++ g = y := ⟨_, rfl⟩
  have HY := hid hy
  have hyl : y.length = q + q' := by rw [← hy, List.length_append, HQ.out, HQ'.out]
  have HYL := hid hyl
  have HOF : Hid (openF y = (rs ++ qs, q + q', 0)) := by
    have h := openF_file (rs ++ qs) (fun b hb => by
      rcases List.mem_append.1 hb with h | h
      · have := HRM.out b h; omega
      · have := HRM'.out b h; omega) (by rw [List.length_append, HK.out, HK'.out]; omega)
    rw [fFile_app, HF.out, HF'.out, hy, hyl] at h
    exact h
  have HLN := hid (show (rs ++ qs).length = k + k' by rw [List.length_append, HK.out, HK'.out])
  clear hy hyl
  obtain ⟨Q, hQ⟩ : ∃ Q, q + q' = Q := ⟨_, rfl⟩
  obtain ⟨K, hK⟩ : ∃ K, k + k' = K := ⟨_, rfl⟩
  rw [hQ] at HYL HOF
  rw [hK] at HLN
  have t1 := bneF (show (Q : Int) = (q : Int) + (q' : Int) by omega)
  have t2 := bneF (show (K : Int) = (k : Int) + (k' : Int) by omega)
  have HO1b := hid (HO1.out.step HO2.out.below)
  have hff : f.length ≤ 10000 := by rw [HQ.out]; exact hq6
  have hyy : y.length ≤ 20000 := by rw [HYL.out]; omega
  go_wp2_with (first
    | (at_builtin; refine wpList_appY elmB gB_one rfl (.const (.slice none 0 0)) (.tmp 31) rfl (.slice none 0 0) [] rfl (Ow.nil _ _ _ _) f f (hid (List.nil_append f)) rfl HO1b.out.sl HQ.out (by simp only [maxLen]; omega) (by omega) ?_; intro A3 c3 w3 hc5 hc6 HN1 _ _)
    | (at_builtin; refine wpList_appY elmB gB_one rfl (.tmp 32) (.tmp 33) rfl (.slice A3 f.length c3) f rfl HN1.out g y HY rfl (HO2.out.step HN1.out.below).sl HQ'.out (by simp only [maxLen]; omega) (by omega) ?_; intro A4 c4 w4 hc7 hc8 HN2 _ _))
  have HC := file_open A4 y.length c4 y w4 hc7 hc8 (by omega) HN2.out.sl
  rw [HOF.out] at HC
  simp only at HC
  refine HC.mono ?_
  clear HC
  rintro e w5 ⟨v5, rfl, hr5⟩
  obtain ⟨A5, c5, rfl, hc9, hc10⟩ := hr5.form
  rw [HLN.out] at hr5 hc9 ⊢
  have HR5 := hid hr5; clear hr5
  have HR1b := hid (((HR1.out.step HO2.out.below).step HN2.out.below).step HR5.out.below)
  have HR2b := hid ((HR2.out.step HN2.out.below).step HR5.out.below)
  have HB5 := hid (bgo' HR5.out.below (bgo' HN2.out.below (bgo' HO2.out.below HO1.out.below)))
  go_wp2
  go_loopw [14] (fun i wr => ∃ j : Nat, j ≤ K ∧ i = .int .i64 j ∧ Below w5.heap.size w5 wr) (fun i _ => K - (intOf i).toNat)
  case atStart => exact ⟨0, Nat.zero_le _, rfl, bnil w5⟩
  case round =>
    obtain ⟨j, hj, rfl, hb⟩ := hrel
    have HB := hid hb; clear hb
    by_cases hlt : j < K
    · obtain ⟨ad1, l, E1, g1, rfl, hl1, e1, hg1, hg2, hs1⟩ := (HR5.out.step HB.out).at_ hlt
      have S1 := hid hs1; clear hs1
      have i1 : (j : Int) < (K : Int) := by omega
      have hlen : l.length ≤ 100 := by
        rcases List.mem_append.1 (List.mem_of_getElem? hl1) with h | h
        · exact HRM.out l h
        · exact HRM'.out l h
      by_cases hjk : j < k
      · obtain ⟨ad2, l2, E2, g3, rfl, hl2, e2, hg3, hg4, hs2⟩ := (HR1b.out.step HB.out).at_ hjk
        obtain rfl : l = l2 := by rw [List.getElem?_append_left (by rw [HK.out]; exact hjk), hl2] at hl1; injection hl1 with h; exact h.symm
        have S2 := hid hs2; clear hs2 hl1 hl2
        have i2 : (j : Int) < (k : Int) := by omega
        go_wp2_with fail
        refine (same_bytesF _ _ _ _ _ l _ (by omega) S1.out S2.out).mono ?_
        rintro e w9 ⟨rfl, hbk⟩
        have HB9 := hid (bgo' hbk HB.out)
        clear hbk
        go_wp2
        go_roundw
        case rel => exact ⟨j + 1, by omega, by go_num, HB9.out⟩
        case measure => simp [intOf]; omega
      · obtain ⟨ad2, l2, E2, g3, rfl, hl2, e2, hg3, hg4, hs2⟩ := (HR2b.out.step HB.out).at_ (i := j - k) (by omega)
        obtain rfl : l = l2 := by rw [List.getElem?_append_right (by rw [HK.out]; omega), HK.out, hl2] at hl1; injection hl1 with h; exact h.symm
        have S2 := hid hs2; clear hs2 hl1 hl2
        have i2 : ¬ (j : Int) < (k : Int) := by omega
        have i3 : (0 : Int) ≤ (j : Int) - (k : Int) := by omega
        have i4 : (j : Int) - (k : Int) < (k' : Int) := by omega
        have i5 : ((j : Int) - (k : Int)).toNat = j - k := by omega
        go_wp2_with fail
        refine (same_bytesF _ _ _ _ _ l _ (by omega) S1.out S2.out).mono ?_
        rintro e w9 ⟨rfl, hbk⟩
        have HB9 := hid (bgo' hbk HB.out)
        clear hbk
        go_wp2
        go_roundw
        case rel => exact ⟨j + 1, by omega, by go_num, HB9.out⟩
        case measure => simp [intOf]; omega
    · have i1 : ¬ (j : Int) < (K : Int) := by omega
      go_wp2_with fail
      refine (file_record _ 1 1 [1] _ (by omega) (Sl.fresh wr #[.int .u8 1] 5 1 1 rfl)).mono ?_
      rintro e w6 ⟨v6, rfl, ho6⟩
      obtain ⟨A6, c6, rfl, hc11, hc12⟩ := ho6.form
      have HB6 := hid (bgo' ho6.below (bnew HB.out _)); clear ho6
      have hr6 : (recOf [1]).length = 7 := by rw [recOf_len]; rfl
      rw [hr6] at hc11 ⊢
      clear hr6
      go_wp2
      go_ret
      exact ⟨rfl, bgo' HB6.out HB5.out⟩
end Go.Proofs.Ytpoaomjpbjcmbaa
