/-
  FileBack: its walk.
-/
import Derived.Test.YtejpcibcllnheaaFMath
import Derived.Test.YtejpcibcllnheaaFSame
namespace Go.Proofs.Ytejpcibcllnheaa
open Go.RowKit
set_option linter.unusedVariables false
set_option maxHeartbeats 1000000 in
theorem law_fileBack (A : Option Addr) (n c : Nat) (ls : List (List UInt8)) (w : World) (hn : n ≤ c) (hc : c ≤ maxLen) (_ : c * 24 ≤ 140737488351232) (hx : Rin w A n ls) :
    Calls Try.prog 11 #[.slice A n c] w fun e w' => e = .returned (.bool true) ∧ Below w.heap.size w w' := by
  have HX := hid hx; clear hx
  go_enter Try.func11, Try.ntmps11
  go_wp2_with fail
  refine (file_of A n c 60 ls w hn hc (by omega) HX.out).mono ?_
  rintro e w1 ⟨v1, v2, rfl, ho1, hr1⟩
  have hrl := fRecs_len ls 60
  have hrm := fRecs_mem ls 60
  generalize fRecs ls 60 = rs at *
  have hfl := fFile_len rs hrm
  have HOF := hid (openF_file rs (fun b hb => by have := hrm b hb; omega) (by omega))
  generalize fFile rs = f at *
  obtain ⟨A1, c1, rfl, hc1, hc2⟩ := ho1.form
  obtain ⟨A2, c2, rfl, hc3, hc4⟩ := hr1.form
  have HO1 := hid ho1; have HR1 := hid hr1.none_; clear ho1 hr1
  obtain ⟨k, hk⟩ : ∃ k, rs.length = k := ⟨_, rfl⟩
  obtain ⟨q, hq⟩ : ∃ q, f.length = q := ⟨_, rfl⟩
  have hk60 : k ≤ 60 := by omega
  have hq6 : q ≤ 10000 := by omega
  rw [hk] at HR1 hc3 ⊢
  rw [hq] at HO1 hc1 HOF ⊢
  have HK := hid hk; have HQ := hid hq; have HRM := hid hrm
  clear hk hq hrl hfl hrm
  go_wp2_with (at_builtin; refine wpList_appY elmB gB_one rfl (.const (.slice none 0 0)) (.tmp 19) rfl (.slice none 0 0) [] rfl (Ow.nil _ _ _ _) f f (hid (List.nil_append f)) rfl HO1.out.sl HQ.out (by rw [HQ.out]; simp only [maxLen]; omega) (by rw [HQ.out]; omega) ?_; intro A3 c3 w3 hc5 hc6 HN1 _ _)
  have HC := file_open A3 f.length c3 f w3 hc5 hc6 (by rw [HQ.out]; omega) HN1.out.sl
  rw [HOF.out] at HC
  simp only at HC
  refine HC.mono ?_
  clear HC
  rintro e w4 ⟨v4, rfl, hr4⟩
  obtain ⟨A4, c4, rfl, hc7, hc8⟩ := hr4.form
  rw [HK.out] at hr4 hc7 ⊢
  have HR4 := hid hr4; clear hr4
  have HR5 := hid ((HR1.out.step HN1.out.below).step HR4.out.below)
  have hqq : ((q : Int) != (q : Int)) = false := by simp
  have hkk : ((k : Int) != (k : Int)) = false := by simp
  go_wp2
  go_loopw [9] (fun i wr => ∃ j : Nat, j ≤ k ∧ i = .int .i64 j ∧ Below w4.heap.size w4 wr) (fun i _ => k - (intOf i).toNat)
  case atStart => exact ⟨0, Nat.zero_le _, rfl, bnil w4⟩
  case round =>
    obtain ⟨j, hj, rfl, hb⟩ := hrel
    have HB := hid hb; clear hb
    by_cases hlt : j < k
    · obtain ⟨ad1, l, B1, d1, rfl, hl1, e1, hd1, hd2, hs1⟩ := (HR4.out.step HB.out).at_ hlt
      obtain ⟨ad2, l2, B2, d2, rfl, hl2, e2, hd3, hd4, hs2⟩ := (HR5.out.step HB.out).at_ hlt
      obtain rfl : l = l2 := by rw [hl1] at hl2; injection hl2
      have hl100 : l.length ≤ 100 := HRM.out l (List.mem_of_getElem? hl1)
      clear hl1 hl2
      have S1 := hid hs1; have S2 := hid hs2; clear hs1 hs2
      have i1 : (j : Int) < (k : Int) := by omega
      go_wp2_with fail
      go_region_held3 (fun w' => Below wr.heap.size wr w' ∧ w'.cell? (ad1.add j) = some (.slice B1 l.length d1) ∧ w'.cell? (ad2.add j) = some (.slice B2 l.length d2))
        ((refine sees2 ?_ e1 e2; (repeat (first | exact (‹Below wr.heap.size wr _ ∧ _ ∧ _›).1 | exact bnil _ | refine bgo' hbk ?_ | refine Below.drew ?_ | refine bnew ?_ _))))
        (first
          | ((with_reducible refine (same_bytesF _ _ _ _ _ l _ ?_ (S1.out.below ?_) (S2.out.below ?_)).mono ?_); (· omega); (· exact (‹Below wr.heap.size wr _ ∧ _ ∧ _›).1); (· exact (‹Below wr.heap.size wr _ ∧ _ ∧ _›).1); rintro e w9 ⟨rfl, hbk⟩; dsimp only))
      all_goals
        have HB9 := hid (bgo' (‹Below wr.heap.size wr w9 ∧ _›).1 HB.out)
        clear hbk
        go_wp2
        go_roundw
        case rel => exact ⟨j + 1, by omega, by go_num, HB9.out⟩
        case measure => simp [intOf]; omega
    · have i1 : ¬ (j : Int) < (k : Int) := by omega
      go_wp2_with fail
      refine (file_record none 0 0 [] wr (by omega) (Sl.nil _)).mono ?_
      rintro e w5 ⟨v5, rfl, ho5⟩
      obtain ⟨A5, c5, rfl, hc9, hc10⟩ := ho5.form
      have HB5 := hid (bgo' ho5.below HB.out); clear ho5
      have hr6 : (recOf []).length = 6 := by rw [recOf_len]; rfl
      rw [hr6] at hc9 ⊢
      clear hr6
      go_wp2
      go_ret
      exact ⟨rfl, bgo' HB5.out (bgo' HR4.out.below (bgo' HN1.out.below HO1.out.below))⟩
end Go.Proofs.Ytejpcibcllnheaa
