/-
  FileTorn: its walk.
-/
import Derived.Test.YtejpcibcllnheaaFMath
import Derived.Test.YtejpcibcllnheaaFSame
namespace Go.Proofs.Ytejpcibcllnheaa
open Go.RowKit
set_option linter.unusedVariables false
/-- where a record begins -/
def fLen (rs : List (List UInt8)) (j : Nat) : Nat := (fFile (rs.take j)).length
theorem fLen_succ {rs : List (List UInt8)} {j : Nat} {b : List UInt8} (h : rs[j]? = some b) : fLen rs (j + 1) = fLen rs j + 6 + b.length := by
  unfold fLen; rw [take_next h, fFile_snoc, List.length_append, recOf_len]; omega
theorem fLen_le (rs : List (List UInt8)) (j : Nat) : fLen rs j ≤ (fFile rs).length := by
  unfold fLen
  conv => rhs; rw [← List.take_append_drop j rs, fFile_app, List.length_append]
  omega
/-- how many records are whole -/
def tI : List (List UInt8) → Nat → Nat
  | [], _ => 0
  | b :: rs, n => if 6 + b.length ≤ n then tI rs (n - (6 + b.length)) + 1 else 0
theorem tI_le : ∀ (rs : List (List UInt8)) (n : Nat), tI rs n ≤ rs.length
  | [], n => Nat.le_refl _
  | b :: rs, n => by
    unfold tI; split
    · have := tI_le rs (n - (6 + b.length)); simp; omega
    · simp
theorem fLen_cons (b : List UInt8) (rs : List (List UInt8)) (j : Nat) : fLen (b :: rs) (j + 1) = 6 + b.length + fLen rs j := by
  unfold fLen fFile; rw [List.take_succ_cons, List.flatMap_cons, List.length_append, recOf_len]
theorem tI_fit : ∀ (rs : List (List UInt8)) (n : Nat), fLen rs (tI rs n) ≤ n
  | [], n => by simp [fLen, tI, fFile]
  | b :: rs, n => by
    unfold tI; split
    · have := tI_fit rs (n - (6 + b.length)); rw [fLen_cons]; omega
    · simp [fLen, fFile]
theorem fLen_mono (rs : List (List UInt8)) {i j : Nat} (h : i ≤ j) : fLen rs i ≤ fLen rs j := by
  have : fLen rs i = fLen (rs.take j) i := by unfold fLen; rw [List.take_take, Nat.min_eq_left h]
  rw [this]; exact fLen_le _ _
theorem tI_stop : ∀ (rs : List (List UInt8)) (n : Nat) (b : List UInt8), rs[tI rs n]? = some b → n < fLen rs (tI rs n) + 6 + b.length
  | [], n, b, h => by simp [tI] at h
  | c :: rs, n, b, h => by
    unfold tI at *; split at h
    · rename_i hc
      rw [if_pos hc] at *
      simp at h
      have := tI_stop rs _ b h
      rw [fLen_cons]; omega
    · rename_i hc
      rw [if_neg hc] at *
      simp at h; subst h
      simp [fLen, fFile]; omega
theorem one_open : openF [0, 0, 0, 0, 0, 1] = ([[]], 6, 0) := by decide
set_option maxHeartbeats 2000000 in
set_option maxRecDepth 100000 in
theorem law_fileTorn (A : Option Addr) (n c : Nat) (ls : List (List UInt8)) (cut : Int) (w : World) (hn : n ≤ c) (hc : c ≤ maxLen) (_ : c * 24 ≤ 140737488351232) (hx : Rin w A n ls) (ha : -9223372036854775808 ≤ cut) (ha1 : cut ≤ 9223372036854775807) :
    Calls Try.prog 12 #[.slice A n c, .int .i64 cut] w fun e w' => e = .returned (.bool true) ∧ Below w.heap.size w w' := by
  have HX := hid hx; clear hx
  go_enter Try.func12, Try.ntmps12
  go_wp2_with fail
  refine (file_of A n c 40 ls w hn hc (by omega) HX.out).mono ?_
  rintro e w1 ⟨v1, v2, rfl, ho1, hr1⟩
  have hrl := fRecs_len ls 40
  have hrm := fRecs_mem ls 40
  generalize fRecs ls 40 = rs at *
  have hfl := fFile_len rs hrm
  obtain ⟨A1, c1, rfl, hc1, hc2⟩ := ho1.form
  obtain ⟨A2, c2, rfl, hc3, hc4⟩ := hr1.form
  obtain ⟨f, hf⟩ : ∃ f, fFile rs = f := ⟨_, rfl⟩
  obtain ⟨k, hk⟩ : ∃ k, rs.length = k := ⟨_, rfl⟩
  obtain ⟨q, hq⟩ : ∃ q, f.length = q := ⟨_, rfl⟩
  have hk60 : k ≤ 40 := by omega
  rw [hf] at ho1 hc1 hfl hr1
  have hq6 : q ≤ 10000 := by omega
  have HO1 := hid ho1; have HR1 := hid hr1.none_; clear ho1 hr1
  rw [hk] at HR1 hc3 ⊢
  rw [hf]
  rw [hq] at HO1 hc1 ⊢
  have HK := hid hk; have HQ := hid hq; have HRM := hid hrm; have HF := hid hf
  clear hk hq hrl hfl hrm hf
  go_wp2_with fail
  refine (picked cut _ w1 (by omega) ha ha1 (by omega)).mono ?_
  rintro e w1 ⟨rfl, rfl⟩
  have hp := pk_lt cut ((q : Int) + 1) (by omega)
  generalize pk cut ((q : Int) + 1) = p at *
  have hpq : p ≤ q := by omega
  clear hp
  obtain ⟨t, ht⟩ : ∃ t, tI rs p = t := ⟨_, rfl⟩
  have htk : t ≤ k := by rw [← ht, ← HK.out]; exact tI_le rs p
  obtain ⟨a0, ha0⟩ : ∃ a0, fLen rs t = a0 := ⟨_, rfl⟩
  have ha0p : a0 ≤ p := by rw [← ha0, ← ht]; exact tI_fit rs p
  have HST := hid (show ∀ b, rs[t]? = some b → p < a0 + 6 + b.length by rw [← ha0, ← ht]; exact tI_stop rs p)
  have HA0 := hid ha0
  obtain ⟨er, her⟩ : ∃ er, (if a0 = p then 0 else 5) = er := ⟨_, rfl⟩
  have HOF : Hid (openF (f.take p) = (rs.take t, a0, er)) := by
    have h := openF_torn rs t p (fun b hb => by have := HRM.out b hb; omega) (by have := HK.out; omega) (by have := HK.out; omega) (by show fLen rs t ≤ p; omega) (by show ∀ b, rs[t]? = some b → p < fLen rs t + 6 + b.length; rw [ha0]; exact HST.out) (by rw [HF.out, HQ.out]; exact hpq)
    rw [HF.out, show (fFile (rs.take t)).length = a0 from ha0, her] at h
    exact h
  have HER := hid her
  clear ht ha0 her
  have hpl : (f.take p).length = p := by rw [List.length_take, HQ.out]; omega
  have HPL := hid hpl; clear hpl
  obtain ⟨fp, hfp⟩ : ∃ fp, f.take p = fp := ⟨_, rfl⟩
  have HSP : Hid (Sl w1 1 A1 p (byts fp)) := by rw [← hfp]; exact hid (HO1.out.sl.preB hpq)
  rw [hfp] at HOF HPL
  clear hfp
  have e1 : (p : Int) ≤ (c1 : Int) := by omega
  go_wp2_with (at_builtin; refine wpList_appY elmB gB_one rfl (.const (.slice none 0 0)) (.tmp 34) rfl (.slice none 0 0) [] rfl (Ow.nil _ _ _ _) fp fp (hid (List.nil_append fp)) rfl HSP.out HPL.out (by rw [HPL.out]; simp only [maxLen]; omega) (by rw [HPL.out]; omega) ?_; intro A3 c3 w3 hc5 hc6 HN1 _ _)
  have HC := file_open A3 fp.length c3 fp w3 hc5 hc6 (by rw [HPL.out]; omega) HN1.out.sl
  rw [HOF.out] at HC
  simp only at HC
  refine HC.mono ?_
  clear HC
  rintro e w4 ⟨v4, rfl, hr4⟩
  obtain ⟨A4, c4, rfl, hc7, hc8⟩ := hr4.form
  have htl : (rs.take t).length = t := by rw [List.length_take, HK.out]; omega
  rw [htl] at hr4 hc7 ⊢
  clear htl
  have HR4 := hid hr4; clear hr4
  have HR5 := hid ((HR1.out.step HN1.out.below).step HR4.out.below)
  go_wp2
  go_loop [12, 13] (fun u i => ∃ j : Nat, j ≤ t ∧ i = .int .i64 j ∧ u = .int .i64 (fLen rs j)) (fun _ i => t - (intOf i).toNat)
  case atStart => exact ⟨0, Nat.zero_le _, rfl, rfl⟩
  case round =>
    obtain ⟨j, hj, rfl, rfl⟩ := hrel
    by_cases hlt : j < t
    · obtain ⟨ad2, l, B2, d2, rfl, hl2, e2, hd3, hd4, hs2⟩ := HR5.out.at_ (i := j) (by omega)
      have hs := fLen_succ hl2
      have hm := fLen_mono rs (show j + 1 ≤ t by omega)
      rw [HA0.out] at hm
      have HSU := hid hs
      obtain ⟨u, hu⟩ : ∃ u, fLen rs j = u := ⟨_, rfl⟩
      rw [hu] at hs ⊢
      have i1 : (j : Int) < (k : Int) := by omega
      have i2 : (u : Int) + 6 + (l.length : Int) ≤ (p : Int) := by omega
      have hup : u ≤ 10000 := by omega
      have hlp : l.length ≤ 10000 := by omega
      have HU := hid hu; have HS := hid hs
      clear hs hm hl2 hs2 hu
      go_wp2
      go_round
      case rel => exact ⟨j + 1, by omega, by go_num, by rw [HS.out]; congr 1; omega⟩
      case measure => simp [intOf]; omega
    · obtain rfl : j = t := by omega
      rw [HA0.out]
      have hcase : (((a0 : Int) == (p : Int)) = true ∧ er = 0) ∨ (((a0 : Int) == (p : Int)) = false ∧ er = 5) := by
        have := HER.out
        by_cases h : a0 = p
        · rw [if_pos h] at this; exact .inl ⟨by simp; omega, this.symm⟩
        · rw [if_neg h] at this; exact .inr ⟨by simp; omega, this.symm⟩
      clear HOF HER
      have haa : ((a0 : Int) != (a0 : Int)) = false := by simp
      have hjj : ((j : Int) != (j : Int)) = false := by simp
      have hex : ((j : Int) < (k : Int) ∧ ∃ (ad2 : Addr) (l : List UInt8) (B2 : Option Addr) (d2 : Nat), A2 = some ad2 ∧ w4.cell? (ad2.add j) = some (.slice B2 l.length d2) ∧ l.length ≤ d2 ∧ d2 ≤ maxLen ∧ l.length ≤ 100 ∧ ¬ (a0 : Int) + 6 + (l.length : Int) ≤ (p : Int)) ∨ ¬ (j : Int) < (k : Int) := by
        by_cases hjk : j < k
        · obtain ⟨ad2, l, B2, d2, rfl, hl2, e2, hd3, hd4, hs2⟩ := HR5.out.at_ (i := j) hjk
          have hst := HST.out l hl2
          exact .inl ⟨by omega, ad2, l, B2, d2, rfl, e2, hd3, hd4, HRM.out l (List.mem_of_getElem? hl2), by omega⟩
        · exact .inr (by omega)
      rcases hex with ⟨i1, ad2, l, B2, d2, rfl, e2, hd3, hd4, hl100, i2⟩ | i1 <;> rcases hcase with ⟨h1, rfl⟩ | ⟨h1, rfl⟩
      all_goals
        go_wp2
        go_loopw [14] (fun i wr => ∃ x : Nat, x ≤ j ∧ i = .int .i64 x ∧ Below w4.heap.size w4 wr) (fun i _ => j - (intOf i).toNat)
        case atStart => exact ⟨0, Nat.zero_le _, rfl, bnil w4⟩
        case round =>
          obtain ⟨x, hx, rfl, hb⟩ := hrel
          have HB := hid hb; clear hb
          by_cases hlt : x < j
          · obtain ⟨ad3, l3, B3, d3, rfl, hl3, e3, hd5, hd6, hs3⟩ := (HR4.out.step HB.out).at_ hlt
            obtain ⟨ad4, l4, B4, d4, hA4, hl4, e4, hd7, hd8, hs4⟩ := (HR5.out.step HB.out).at_ (i := x) (Nat.lt_of_lt_of_le hlt htk)
            obtain rfl : l3 = l4 := by rw [List.getElem?_take, if_pos hlt, hl4] at hl3; injection hl3 with hl3; exact hl3.symm
            have hl100 : l3.length ≤ 100 := HRM.out l3 (List.mem_of_getElem? hl4)
            first | subst hA4 | (injection hA4 with hA4; subst ad2)
            clear hl3 hl4
            have S3 := hid hs3; have S4 := hid hs4; clear hs3 hs4
            have i3 : (x : Int) < (j : Int) := by omega
            have i4 : (x : Int) < (k : Int) := by omega
            go_wp2_with fail
            go_region_held3 (fun w' => Below wr.heap.size wr w' ∧ w'.cell? (ad3.add x) = some (.slice B3 l3.length d3) ∧ w'.cell? (ad4.add x) = some (.slice B4 l3.length d4))
              ((refine sees2 ?_ e3 e4; (repeat (first | exact (‹Below wr.heap.size wr _ ∧ _ ∧ _›).1 | exact bnil _ | refine bgo' hbk ?_ | refine Below.drew ?_ | refine bnew ?_ _))))
              (first
                | ((with_reducible refine (same_bytesF _ _ _ _ _ l3 _ ?_ (S3.out.below ?_) (S4.out.below ?_)).mono ?_); (· omega); (· exact (‹Below wr.heap.size wr _ ∧ _ ∧ _›).1); (· exact (‹Below wr.heap.size wr _ ∧ _ ∧ _›).1); rintro e w9 ⟨rfl, hbk⟩; dsimp only))
            all_goals
              have HB9 := hid (bgo' (‹Below wr.heap.size wr w9 ∧ _›).1 HB.out)
              clear hbk
              go_wp2
              go_roundw
              case rel => exact ⟨x + 1, by omega, by go_num, HB9.out⟩
              case measure => simp [intOf]; omega
          · have i3 : ¬ (x : Int) < (j : Int) := by omega
            go_wp2_with fail
            have HC := file_open _ 6 6 [0, 0, 0, 0, 0, 1] _ (by decide) (by simp [maxLen]) (by decide) (Sl.fresh wr #[.int .u8 0, .int .u8 0, .int .u8 0, .int .u8 0, .int .u8 0, .int .u8 1] 5 1 6 rfl)
            rw [one_open] at HC
            simp only at HC
            refine HC.mono ?_
            clear HC
            rintro e w5 ⟨v5, rfl, hr5⟩
            obtain ⟨A5, c5, rfl, hc9, hc10⟩ := hr5.form
            have HB5 := hid (bgo' hr5.below (bnew HB.out _)); clear hr5
            go_wp2
            go_ret
            exact ⟨rfl, bgo' HB5.out (bgo' HR4.out.below (bgo' HN1.out.below HO1.out.below))⟩
end Go.Proofs.Ytejpcibcllnheaa
