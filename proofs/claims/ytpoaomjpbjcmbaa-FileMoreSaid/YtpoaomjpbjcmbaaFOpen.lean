/-
  file.Open and FileOf: their walks.
-/
import Derived.Test.YtpoaomjpbjcmbaaFile
import Derived.Test.YtpoaomjpbjcmbaaRws
namespace Go.Proofs.Ytpoaomjpbjcmbaa
open Go.RowKit
set_option linter.unusedVariables false

/-- opening goes on at a place, with the records till now -/
def opn : Nat → List (List UInt8) → Nat → List UInt8 → List (List UInt8) × Nat × Nat
  | 0, rs, at_, _ => (rs, at_, 0)
  | f + 1, rs, at_, l =>
    if l.length ≤ at_ then (rs, at_, 0) else
    if rs.length = 200 then (rs, at_, 8) else
    if (first1 (l.drop at_)).2 = 0 then opn f (rs ++ [(first1 (l.drop at_)).1]) (at_ + 6 + (first1 (l.drop at_)).1.length) l
    else (rs, at_, (first1 (l.drop at_)).2)
def openF (l : List UInt8) : List (List UInt8) × Nat × Nat := opn (l.length + 1) [] 0 l
theorem first1_len (l : List UInt8) (h : (first1 l).2 = 0) : 6 + (first1 l).1.length ≤ l.length := by
  unfold first1 at *
  split at h
  · simp at h
  rename_i h6
  split at h
  · simp at h
  split at h
  · simp at h
  rename_i h4 h5
  split at h
  · rename_i h7
    rw [if_neg h6, if_neg h4, if_neg h5, if_pos h7]
    simp only [List.length_take, List.length_drop]
    omega
  · simp at h
theorem first1_lt (l : List UInt8) : (first1 l).2 < 100 := by
  unfold first1
  repeat' split
  all_goals simp

set_option maxHeartbeats 1000000 in
theorem file_open (A : Option Addr) (n c : Nat) (l : List UInt8) (w : World) (hn : n ≤ c) (hc : c ≤ maxLen) (hc2 : n ≤ 1000000) (h : Sl w 1 A n (byts l)) :
    Calls Try.prog 6 #[.slice A n c] w fun e w' => ∃ v, e = .returned (.tuple #[v, .int .i64 ((openF l).2.1 : Int), .int .i64 ((openF l).2.2 : Int)]) ∧ Rows w w' none v (openF l).1 := by
  have H := hid h; clear h
  have HL := hid H.out.lenb
  obtain ⟨R, hR⟩ : ∃ R, openF l = R := ⟨_, rfl⟩
  rw [hR]
  have HR0 : Hid (opn (l.length + 1) [] 0 l = R) := hid hR
  clear hR
  unfold maxLen at hc
  go_enter Try.func6, Try.ntmps6
  go_wp2
  go_loopw [5, 6] (fun v i wr => ∃ (k f : Nat) (rs : List (List UInt8)) (B : Option Addr) (c1 : Nat), k ≤ n ∧ n < f + k ∧ i = .int .i64 k ∧ v = .slice B rs.length c1 ∧ rs.length ≤ c1 ∧ c1 ≤ 9223372036854775807 ∧ Rows w wr none v rs ∧ rs.length ≤ 200 ∧ Hid (opn f rs k l = R)) (fun _ i _ => n - (intOf i).toNat)
  case atStart => exact ⟨0, _, [], none, 0, Nat.zero_le _, by have := HL.out; omega, rfl, rfl, by simp, by simp, Rows.nil_ (bnil w), by simp, HR0⟩
  case round =>
    obtain ⟨k, f, rs, B, c1, hk, hf, rfl, rfl, hc1, hc3, hr, h200, hR⟩ := hrel
    have HR := hid hr; clear hr
    have HB := hid HR.out.below
    obtain ⟨f, rfl⟩ : ∃ f', f = f' + 1 := ⟨f - 1, by omega⟩
    by_cases hlt : k < n
    · obtain ⟨ad, rfl, _⟩ := H.out.2 (by omega)
      have hne : ¬ l.length ≤ k := by have := HL.out; omega
      have hR' : opn (f + 1) rs k l = R := hR.out
      unfold opn at hR'
      rw [if_neg hne] at hR'
      have i1 : (k : Int) < (n : Int) := by omega
      by_cases hfull : rs.length = 200
      · rw [if_pos hfull] at hR'
        obtain ⟨m, hm⟩ : ∃ m, rs.length = m := ⟨_, rfl⟩
        have HR1 := hid hR'
        have HM := hid hm
        rw [hm] at hfull HR hc1 h200 ⊢
        subst hfull
        clear hR hR' hm
        go_wp2
        go_ret3
        rw [← HR1.out]
        exact ⟨_, rfl, HR.out⟩
      · rw [if_neg hfull] at hR'
        obtain ⟨fb, fe, hfe⟩ : ∃ fb fe, first1 (l.drop k) = (fb, fe) := ⟨_, _, rfl⟩
        have hfl := first1_len (l.drop k)
        have hfl2 := first1_lt (l.drop k)
        rw [hfe] at hR' hfl hfl2
        simp only at hR' hfl hfl2
        rw [List.length_drop, HL.out] at hfl
        have HFE := hid hfe
        have HR1 := hid hR'
        obtain ⟨m, hm⟩ : ∃ m, rs.length = m := ⟨_, rfl⟩
        rw [hm] at hfull HR hc1 h200 ⊢
        have HM := hid hm
        clear hR hR' hfe hm
        have hm1 : ((m : Int) == 200) = false := by simp; omega
        have hm2 : decide ((m : Int) = 200) = false := by simp; omega
        go_wp2_with fail
        have HK := hid ((H.out.below HB.out).cutB (k := k) (cap := c) (by omega) hn)
        rw [if_neg (by omega)] at HK
        have HC := file_first _ (n - k) (c - k) (l.drop k) wr (by omega) (by unfold maxLen; omega) HK.out
        rw [HFE.out] at HC
        simp only at HC
        refine HC.mono ?_
        rintro e w2 ⟨v2, rfl, ho2⟩
        have HO2 := hid ho2; clear ho2 HC
        obtain ⟨B2, c2, rfl, hc4, hc5⟩ := HO2.out.form
        by_cases he : fe = 0
        · subst he
          have hfl3 := hfl rfl
          have HR2 : Hid (opn f (rs ++ [fb]) (k + 6 + fb.length) l = R) := by have := HR1.out; rw [if_pos rfl] at this; exact hid this
          clear HR1 hfl
          obtain ⟨q, hq⟩ : ∃ q, fb.length = q := ⟨_, rfl⟩
          obtain ⟨y, hy⟩ : ∃ y, rs ++ [fb] = y := ⟨_, rfl⟩
          have hyl : y.length ≤ m + 1 := by rw [← hy]; simp [HM.out]
          rw [hq, hy] at HR2
          have HQ := hid hq
          have HY := hid hy
          rw [hq] at HO2 hc4 hfl3
          rw [hq]
          clear hq hy
          have HR3 := hid (HR.out.step HO2.out.below)
          have HU := hid (show w2.ownsRow w.heap.size 5 1 (.slice B2 q c2) fb.length (byts fb) from own_lower HO2.out.own HB.out.size)
          go_wp2_with (at_builtin; refine wpList_appRow rfl (.tmp 30) (.tmp 32) rfl (.slice B m c1) rs rfl (HR3.out.step (bnew (bnil _) _)) (.slice B2 q c2) fb y HY rfl (Sl.fresh w2 #[.slice B2 q c2] 23 1 1 rfl) (own_below HU.out (bnew (bnil _) _)) (fun _ _ => by simp) (by omega) ?_; intro A4 c4 w4 hc6 hc7 HN1 _ _)
          go_roundw
          case rel => exact ⟨k + 6 + q, f, y, A4, c4, by omega, by omega, by congr 1; omega, rfl, hc6, hc7, HN1.out, by omega, HR2⟩
          case measure => simp [intOf]; omega
        · have HR2 : Hid ((rs, k, fe) = R) := by have := HR1.out; rw [if_neg he] at this; exact hid this
          have e1 : ((fe : Int) != 0) = true := by simp; omega
          have HR3 := hid (HR.out.step HO2.out.below)
          clear HR1 hfl
          go_wp2
          go_ret3
          rw [← HR2.out]
          exact ⟨_, rfl, HR3.out⟩
    · have hle : l.length ≤ k := by have := HL.out; omega
      have hR' : opn (f + 1) rs k l = R := hR.out
      unfold opn at hR'
      rw [if_pos hle] at hR'
      have HR2 := hid hR'
      clear hR hR'
      have i1 : ¬ (k : Int) < (n : Int) := by omega
      go_wp2
      go_ret3
      rw [← HR2.out]
      exact ⟨_, rfl, HR.out⟩
end Go.Proofs.Ytpoaomjpbjcmbaa
