/-
  RankBounds: its walk.
-/
import Derived.Test.YtifpnfhmemdljaaDoorRankK
import Derived.Test.YtifpnfhmemdljaaDoorRollB
namespace Go.Proofs.YtifpnfhmemdljaaDoor
open Go.RowKit
set_option linter.unusedVariables false

theorem wrap_rb {x : Int} (h0 : -1000000000 ≤ x) (h1 : x ≤ 1000000000) : wrap64 x = x := by unfold wrap64; omega
abbrev topS : Int × Int := (18014398509481984, 3)
theorem top_in : SmpsIn [topS] := ⟨fun x hx => by rw [List.mem_singleton.1 hx]; decide, fun k x y hx hy => by simp at hy⟩
theorem last_up {l : List (Int × Int)} (h : SmpsIn l) {k : Nat} {y : Int × Int} (hk : l.length = k + 1) (hy : l[k]? = some y) (hlt : y.1 < 18014398509481984) : SmpsIn (l ++ [topS]) := by
  refine h.snoc (by decide) fun x hx => ?_
  obtain ⟨i, hi⟩ := List.getElem?_of_mem hx
  have key : ∀ (d i : Nat) (x y : Int × Int), l[i]? = some x → l[i + d]? = some y → x.1 ≤ y.1 := by
    intro d
    induction d with
    | zero => intro i x y hx hy; rw [Nat.add_zero, hx] at hy; injection hy with hy; rw [hy]; exact Int.le_refl _
    | succ d ih =>
      intro i x y hx hy
      have hl := (List.getElem?_eq_some_iff.1 hy).1
      obtain ⟨z, hz⟩ : ∃ z, l[i + d]? = some z := ⟨_, List.getElem?_eq_getElem (by omega)⟩
      have h1 := ih i x z hx hz
      have h2 := h.up (i + d) z y hz (by rw [Nat.add_assoc]; exact hy)
      omega
  have hl := (List.getElem?_eq_some_iff.1 hi).1
  have := key (k - i) i x y hi (by rw [show i + (k - i) = k by omega]; exact hy)
  show x.1 < 18014398509481984
  omega
theorem own_blt {w : World} {B e sz n b cap : Nat} {xs : List Value} (h : w.ownsRow B e sz (.slice (some ⟨b, 0, none⟩) n cap) n xs) : b < w.heap.size := by
  rcases h.2 with ⟨h0, _⟩ | ⟨g, cap, cur, hv, _, hbb, _⟩
  · cases h0
  · injection hv with hv; injection hv with hv; injection hv with hv
    subst hv
    exact (Array.getElem?_eq_some_iff.1 hbb).1
theorem snoc_get' {α : Type} {l : List α} {y : α} {k : Nat} (h : l[k]? = some y) (x : List α) : (l ++ x)[k]? = some y := by
  rw [List.getElem?_append_left (List.getElem?_eq_some_iff.1 h).1, h]
set_option maxHeartbeats 4000000 in
theorem law_rankBounds (A : Option Addr) (n c : Nat) (l : List (Int × Int × Bool)) (first xp xo : Int) (w : World) (hn : n ≤ c) (hc : c ≤ maxLen) (_ : c * 24 ≤ 140737488351232) (hx : Sl w 3 A n (l.flatMap gD)) (hd : ∀ d ∈ l, DotOk d) (hf : -9223372036854775808 ≤ first) (hf1 : first ≤ 9223372036854775807)
    (ha : -9223372036854775808 ≤ xp) (ha1 : xp ≤ 9223372036854775807) (hb : -9223372036854775808 ≤ xo) (hb1 : xo ≤ 9223372036854775807) (ht : ZTab w) :
    Calls Tryd.prog 3 #[.slice A n c, .int .i64 first, .int .i64 xp, .int .i64 xo] w fun e w' => e = .returned (.bool true) ∧ Below w.heap.size w w' := by
  have HX := hid hx; have HD := hid hd; have HT := hid ht
  clear hx hd ht
  have k1 := pk_lt xo 100 (by decide)
  obtain ⟨o, hO⟩ : ∃ o : Nat, wrap64 (1 + (pk xo 100 : Int)) = (o : Int) ∧ o = 1 + pk xo 100 := ⟨1 + pk xo 100, by rw [wrap_rb (by omega) (by omega)]; omega, rfl⟩
  have ho1 : 1 ≤ o := by omega
  have ho2 : o ≤ 100 := by omega
  have HO := hid hO.1
  have HO2 := hid (wrap_rb (x := (o : Int) + 1) (by omega) (by omega))
  clear hO k1
  have k2 := pk_lt xp ((o : Int) + 1) (by omega)
  obtain ⟨p, hP⟩ : ∃ p, pk xp ((o : Int) + 1) = p := ⟨_, rfl⟩
  have hpo : p ≤ o := by omega
  have HP := hid hP
  clear hP k2
  go_enter Tryd.func3, Tryd.ntmps3
  go_wp2_with fail
  refine (samples A n c l first 80 w hn hc HX.out HD.out hf hf1 (by omega)).mono ?_
  rintro e w1 ⟨v1, rfl, o1⟩
  obtain ⟨hin, hlen⟩ := smps_in first hf hf1 l HD.out 80
  have HI := hid hin
  generalize smps l first 80 = s at *
  obtain ⟨A1, c1, rfl, hc1, hc12⟩ := o1.form
  obtain ⟨k, hk⟩ : ∃ k, s.length = k := ⟨_, rfl⟩
  have O1 := hid o1; have HK := hid hk
  rw [hk] at hlen hc1
  obtain ⟨y, hy⟩ : ∃ y, s ++ [topS] = y := ⟨_, rfl⟩
  have HY := hid hy
  have HYL := hid (show y.length = k + 1 by rw [← hy, List.length_append, hk]; rfl)
  clear o1 hk hin hy hc1 hc12
  go_upto_region 2 with (at_builtin; refine wpList_appY elmP gP_one rfl (.tmp 19) (.tmp 21) rfl (.slice A1 s.length c1) s rfl (O1.out.alloc _) [topS] y HY rfl (Sl.fresh' _ #[_, _] 26 2 1 _ rfl rfl) rfl (by rw [HYL.out]; simp only [maxLen]; omega) (by rw [HYL.out]; omega) ?_; intro A2 c2 w2 hc2 hc22 HN1 _ _)
  have B2 := hid HN1.out.below
  have SY := hid HN1.out.sl
  obtain ⟨L, hL⟩ : ∃ L, k + 1 = L := ⟨_, rfl⟩
  rw [hL] at HYL
  rw [HYL.out] at SY hc2 ⊢
  clear HN1
  have hL1 : 1 ≤ L := by omega
  have hL81 : L ≤ 81 := by omega
  have HKL := hid hL
  clear hL hlen
  unfold maxLen at hc22
  have hcase : (L = 1 ∧ SmpsIn y) ∨ (2 ≤ L ∧ ∃ x : Int × Int, y[L - 2]? = some x ∧ ((18014398509481984 ≤ x.1) ∨ (x.1 < 18014398509481984 ∧ SmpsIn y))) := by
    by_cases h1 : L = 1
    · refine .inl ⟨h1, ?_⟩
      have : s = [] := List.eq_nil_of_length_eq_zero (by rw [HK.out]; have := HKL.out; omega)
      rw [← HY.out, this]; exact top_in
    · refine .inr ⟨by omega, ?_⟩
      have hk1 : s.length = (L - 2) + 1 := by rw [HK.out]; have := HKL.out; omega
      obtain ⟨x, hx⟩ : ∃ x, s[L - 2]? = some x := ⟨_, List.getElem?_eq_getElem (by omega)⟩
      refine ⟨x, by rw [← HY.out]; exact snoc_get' hx _, ?_⟩
      by_cases h2 : 18014398509481984 ≤ x.1
      · exact .inl h2
      · exact .inr ⟨by omega, by rw [← HY.out]; exact last_up HI.out hk1 hx (by omega)⟩
  rcases hcase with ⟨hLe, hI⟩ | ⟨hL2, x, hx, hx2⟩
  · have HI3 := hid hI
    clear hI
    have i1 : ¬ (1 : Int) < (L : Int) := by omega
    go_upto_region 4 with fail
    have HS3 := SY; have HL3 := HYL
    clear SY HYL hc2 HKL i1 hLe
    obtain ⟨A3, hA3⟩ : ∃ A3, A3 = A2 := ⟨_, rfl⟩
    obtain ⟨c3, hc3⟩ : ∃ c3, c3 = c2 := ⟨_, rfl⟩
    obtain ⟨s3, hs3⟩ : ∃ s3, s3 = y := ⟨_, rfl⟩
    obtain ⟨n3, hn3⟩ : ∃ n3, n3 = L := ⟨_, rfl⟩
    subst hA3 hc3 hs3 hn3
    go_wp2_with fail
    go_loopw [10, 11] (fun v i wr => ∃ j : Nat, j ≤ n3 ∧ i = .int .i64 j ∧ Hid (Ow w2 wr 3 1 gI v ((vals s3).take j))) (fun _ i _ => n3 - (intOf i).toNat)
    case atStart => exact ⟨0, Nat.zero_le _, rfl, hid ⟨⟨rfl, .inl ⟨rfl, rfl⟩⟩, bnil _⟩⟩
    case round =>
      obtain ⟨j, hj, rfl, HO3⟩ := hrel
      obtain ⟨Av, cv, rfl, _, _⟩ := HO3.out.form
      have HLV := hid (show (vals s3).length = n3 by unfold vals; rw [List.length_map, HL3.out])
      have hlj : ((vals s3).take j).length = j := by rw [List.length_take, HLV.out]; omega
      rw [hlj]
      rw [hlj] at HO3
      by_cases hlt : j < n3
      · have i9 : (j : Int) < (n3 : Int) := by omega
        obtain ⟨ad3, f, e3, hf3, d0, d1⟩ := (HS3.out.below HO3.out.below).atS hlt
        subst e3
        obtain ⟨ft, fv⟩ := f
        simp only at d0 d1
        have hv3 : (vals s3)[j]? = some fv := by unfold vals; rw [List.getElem?_map, hf3]; rfl
        obtain ⟨y3, hy3⟩ : ∃ y3, (vals s3).take j ++ [fv] = y3 := ⟨_, rfl⟩
        have HY3 := hid hy3
        have HYE := hid (show y3 = (vals s3).take (j + 1) by rw [← hy3, take_next hv3])
        have HYN := hid (show y3.length = j + 1 by rw [← hy3, List.length_append, hlj]; rfl)
        clear hf3 hv3 hy3 d0
        go_wp2_with (at_builtin; refine wpList_appY elmI gI_one rfl (.tmp 47) (.tmp 53) rfl (.slice Av j cv) ((vals s3).take j) rfl (HO3.out.alloc _) [fv] y3 HY3 rfl (Sl.fresh' _ #[_] 3 1 1 _ rfl rfl) rfl (by rw [HYN.out]; simp only [maxLen]; omega) (by rw [HYN.out]; omega) ?_; intro A4 c4 w4 hc4 hc5 HN4 _ _)
        go_roundw
        case rel => exact ⟨j + 1, by omega, by go_num, by rw [← HYE.out]; exact HN4⟩
        case measure => simp [intOf]; omega
      · obtain rfl : j = n3 := by omega
        have i9 : ¬ (j : Int) < (j : Int) := by omega
        rw [List.take_of_length_le (by rw [HLV.out]; exact Nat.le_refl _)] at HO3
        clear hlj
        have hown := HO3.out.own
        rw [HLV.out] at hown
        obtain ⟨b, c7, e7, _, _⟩ := own_at hown (by omega)
        injection e7 with e7 e8 e9
        subst e7
        subst e9
        clear e8
        have hblt := own_blt hown
        have HSV := hid (show Sl wr 1 (some ⟨b, 0, none⟩) (vals s3).length (ints (vals s3)) by have h := HO3.out.sl; rw [HLV.out]; exact h)
        have BR := hid HO3.out.below
        have HR := hid (rank_of b cv o p (vals s3) wr (by rw [HLV.out]; omega) (by rw [HLV.out]; omega) ho1 (by omega) hpo hblt HSV.out)
        rw [HLV.out] at HR
        have HM := hid (rank_one (l := vals s3) (o := o) (p := p) (by rw [HLV.out]; omega) hpo).1
        obtain ⟨x, hx⟩ : ∃ x, rk (vals s3) o p = x := ⟨_, rfl⟩
        rw [hx] at HR HM
        have hrc := rAll_c (vals s3)
        have hrb := rAll_bd (vals s3) x HM.out
        rw [HLV.out] at hrc
        have HRO := hid (fun w' hw' => roll_Of A3 j c3 s3 w' (by omega) (HS3.out.below (bgo BR.out hw')) HI3.out (HT.out.below (bgo B2.out (bgo BR.out hw'))))
        obtain ⟨r, hr⟩ : ∃ r, rAll (vals s3) = r := ⟨_, rfl⟩
        rw [hr] at hrc hrb HRO
        obtain ⟨rc, rn, rx, rs⟩ := r
        simp only at hrc hrb
        subst hrc
        clear hx hr hown HO3 HSV HM
        go_wp2_with fail
        refine (picked xo 100 wr (by decide) hb hb1 (by decide)).mono ?_
        rintro e w' ⟨rfl, rfl⟩
        go_wp2_with fail
        rw [HO.out, HO2.out]
        refine (picked xp ((o : Int) + 1) wr (by omega) ha ha1 (by omega)).mono ?_
        rintro e w' ⟨rfl, rfl⟩
        rw [HP.out]
        go_wp2_with fail
        refine HR.out.mono ?_
        rintro e w5 ⟨rfl, b5⟩
        go_wp2_with fail
        refine (HRO.out w5 b5).mono ?_
        rintro e w6 ⟨rfl, b6⟩
        have BE := hid (bgo B2.out (bgo BR.out (bgo b5 b6)))
        have HKR := hid (Blk.new w6 33 #[.int .i64 (j : Int), .int .i64 rn, .int .i64 rx, .int .i64 rs])
        have HG1 := hid (show ((j : Int) == (j : Int)) = true from by simp)
        have m1 : rn ≤ x := hrb.1
        have m2 : x ≤ rx := hrb.2
        clear hrb b5 b6
        go_wp2_with fail
        all_goals
          go_ret
          exact ⟨rfl, bgo BE.out (bnew (bnil _) _)⟩
  · have i1 : (1 : Int) < (L : Int) := by omega
    have q1 : IntKind.i64.wrap ((L : Int) - 2) = (L : Int) - 2 := IntWalk.i64_in _ (by omega)
    have q2 : (2 : Int) ≤ (L : Int) := by omega
    have q3 : (L : Int) - 2 < (L : Int) := by omega
    have q4 : ((L : Int) - 2).toNat = L - 2 := by omega
    have q5 : (0 : Int) ≤ (L : Int) - 2 := by omega
    obtain ⟨ad, x', rfl, hx', c0, c1'⟩ := SY.out.atS (k := L - 2) (by omega)
    rw [hx] at hx'
    injection hx' with hx'
    subst hx'
    obtain ⟨xt, xv⟩ := x
    simp only at c0 c1' hx2
    rcases hx2 with hge | ⟨hlt, hI⟩
    · clear hx c1'
      have HYL2 := HYL
      have hcut := Sl.cutG (g := gP) (k := L - 1) (cap := c2) (fun _ => rfl) SY.out (by omega) hc2
      rw [if_neg (by omega)] at hcut
      simp only [Option.map_some] at hcut
      have hdr : y.drop (L - 1) = [topS] := by
        rw [← HY.out, List.drop_append_of_le_length (by rw [HK.out]; have := HKL.out; omega), List.drop_of_length_le (by rw [HK.out]; have := HKL.out; omega)]; rfl
      rw [hdr] at hcut
      have HCUT := hid hcut
      clear hcut hdr
      go_upto_region 4 with fail
      have HI3 := hid top_in
      obtain ⟨A3, hA3⟩ : ∃ A3 : Option Addr, some (ad.add ((L - 1) * 2)) = A3 := ⟨_, rfl⟩
      obtain ⟨n3, hn3⟩ : ∃ n3, L - (L - 1) = n3 := ⟨_, rfl⟩
      obtain ⟨c3, hc3⟩ : ∃ c3, c2 - (L - 1) = c3 := ⟨_, rfl⟩
      have HL3 := hid (show [topS].length = n3 by show 1 = n3; omega)
      rw [hA3, hn3] at HCUT
      rw [hA3, hn3, hc3]
      have HS3 := HCUT
      have h31 : 1 ≤ n3 := by omega
      have h381 : n3 ≤ 81 := by omega
      obtain ⟨s3, hs3⟩ : ∃ s3, [topS] = s3 := ⟨_, rfl⟩
      rw [hs3] at HS3 HL3 HI3
      clear hn3 SY HYL hc2 hL1 hL81 HKL hA3 hc3 hs3 HCUT HYL2 c0 q1 q2 q3 q4 q5 i1 hge hL2
      go_wp2_with fail
      go_loopw [10, 11] (fun v i wr => ∃ j : Nat, j ≤ n3 ∧ i = .int .i64 j ∧ Hid (Ow w2 wr 3 1 gI v ((vals s3).take j))) (fun _ i _ => n3 - (intOf i).toNat)
      case atStart => exact ⟨0, Nat.zero_le _, rfl, hid ⟨⟨rfl, .inl ⟨rfl, rfl⟩⟩, bnil _⟩⟩
      case round =>
        obtain ⟨j, hj, rfl, HO3⟩ := hrel
        obtain ⟨Av, cv, rfl, _, _⟩ := HO3.out.form
        have HLV := hid (show (vals s3).length = n3 by unfold vals; rw [List.length_map, HL3.out])
        have hlj : ((vals s3).take j).length = j := by rw [List.length_take, HLV.out]; omega
        rw [hlj]
        rw [hlj] at HO3
        by_cases hlt : j < n3
        · have i9 : (j : Int) < (n3 : Int) := by omega
          obtain ⟨ad3, f, e3, hf3, d0, d1⟩ := (HS3.out.below HO3.out.below).atS hlt
          subst e3
          obtain ⟨ft, fv⟩ := f
          simp only at d0 d1
          have hv3 : (vals s3)[j]? = some fv := by unfold vals; rw [List.getElem?_map, hf3]; rfl
          obtain ⟨y3, hy3⟩ : ∃ y3, (vals s3).take j ++ [fv] = y3 := ⟨_, rfl⟩
          have HY3 := hid hy3
          have HYE := hid (show y3 = (vals s3).take (j + 1) by rw [← hy3, take_next hv3])
          have HYN := hid (show y3.length = j + 1 by rw [← hy3, List.length_append, hlj]; rfl)
          clear hf3 hv3 hy3 d0
          go_wp2_with (at_builtin; refine wpList_appY elmI gI_one rfl (.tmp 47) (.tmp 53) rfl (.slice Av j cv) ((vals s3).take j) rfl (HO3.out.alloc _) [fv] y3 HY3 rfl (Sl.fresh' _ #[_] 3 1 1 _ rfl rfl) rfl (by rw [HYN.out]; simp only [maxLen]; omega) (by rw [HYN.out]; omega) ?_; intro A4 c4 w4 hc4 hc5 HN4 _ _)
          go_roundw
          case rel => exact ⟨j + 1, by omega, by go_num, by rw [← HYE.out]; exact HN4⟩
          case measure => simp [intOf]; omega
        · obtain rfl : j = n3 := by omega
          have i9 : ¬ (j : Int) < (j : Int) := by omega
          rw [List.take_of_length_le (by rw [HLV.out]; exact Nat.le_refl _)] at HO3
          clear hlj
          have hown := HO3.out.own
          rw [HLV.out] at hown
          obtain ⟨b, c7, e7, _, _⟩ := own_at hown (by omega)
          injection e7 with e7 e8 e9
          subst e7
          subst e9
          clear e8
          have hblt := own_blt hown
          have HSV := hid (show Sl wr 1 (some ⟨b, 0, none⟩) (vals s3).length (ints (vals s3)) by have h := HO3.out.sl; rw [HLV.out]; exact h)
          have BR := hid HO3.out.below
          have HR := hid (rank_of b cv o p (vals s3) wr (by rw [HLV.out]; omega) (by rw [HLV.out]; omega) ho1 (by omega) hpo hblt HSV.out)
          rw [HLV.out] at HR
          have HM := hid (rank_one (l := vals s3) (o := o) (p := p) (by rw [HLV.out]; omega) hpo).1
          obtain ⟨x, hx⟩ : ∃ x, rk (vals s3) o p = x := ⟨_, rfl⟩
          rw [hx] at HR HM
          have hrc := rAll_c (vals s3)
          have hrb := rAll_bd (vals s3) x HM.out
          rw [HLV.out] at hrc
          have HRO := hid (fun w' hw' => roll_Of A3 j c3 s3 w' (by omega) (HS3.out.below (bgo BR.out hw')) HI3.out (HT.out.below (bgo B2.out (bgo BR.out hw'))))
          obtain ⟨r, hr⟩ : ∃ r, rAll (vals s3) = r := ⟨_, rfl⟩
          rw [hr] at hrc hrb HRO
          obtain ⟨rc, rn, rx, rs⟩ := r
          simp only at hrc hrb
          subst hrc
          clear hx hr hown HO3 HSV HM
          go_wp2_with fail
          refine (picked xo 100 wr (by decide) hb hb1 (by decide)).mono ?_
          rintro e w' ⟨rfl, rfl⟩
          go_wp2_with fail
          rw [HO.out, HO2.out]
          refine (picked xp ((o : Int) + 1) wr (by omega) ha ha1 (by omega)).mono ?_
          rintro e w' ⟨rfl, rfl⟩
          rw [HP.out]
          go_wp2_with fail
          refine HR.out.mono ?_
          rintro e w5 ⟨rfl, b5⟩
          go_wp2_with fail
          refine (HRO.out w5 b5).mono ?_
          rintro e w6 ⟨rfl, b6⟩
          have BE := hid (bgo B2.out (bgo BR.out (bgo b5 b6)))
          have HKR := hid (Blk.new w6 33 #[.int .i64 (j : Int), .int .i64 rn, .int .i64 rx, .int .i64 rs])
          have HG1 := hid (show ((j : Int) == (j : Int)) = true from by simp)
          have m1 : rn ≤ x := hrb.1
          have m2 : x ≤ rx := hrb.2
          clear hrb b5 b6
          go_wp2_with fail
          all_goals
            go_ret
            exact ⟨rfl, bgo BE.out (bnew (bnil _) _)⟩
    · have i2 : ¬ (18014398509481984 ≤ xt) := by omega
      have HI3 := hid hI
      clear hI hx c1'
      go_upto_region 4 with fail
      obtain ⟨A3, hA3⟩ : ∃ A3 : Option Addr, some ad = A3 := ⟨_, rfl⟩
      rw [hA3] at SY ⊢
      have HS3 := SY; have HL3 := HYL
      clear hA3 SY HYL hc2 HKL c0 q1 q2 q3 q4 q5 i1 i2 hlt hL2
      obtain ⟨c3, hc3⟩ : ∃ c3, c3 = c2 := ⟨_, rfl⟩
      obtain ⟨s3, hs3⟩ : ∃ s3, s3 = y := ⟨_, rfl⟩
      obtain ⟨n3, hn3⟩ : ∃ n3, n3 = L := ⟨_, rfl⟩
      subst hc3 hs3 hn3
      go_wp2_with fail
      go_loopw [10, 11] (fun v i wr => ∃ j : Nat, j ≤ n3 ∧ i = .int .i64 j ∧ Hid (Ow w2 wr 3 1 gI v ((vals s3).take j))) (fun _ i _ => n3 - (intOf i).toNat)
      case atStart => exact ⟨0, Nat.zero_le _, rfl, hid ⟨⟨rfl, .inl ⟨rfl, rfl⟩⟩, bnil _⟩⟩
      case round =>
        obtain ⟨j, hj, rfl, HO3⟩ := hrel
        obtain ⟨Av, cv, rfl, _, _⟩ := HO3.out.form
        have HLV := hid (show (vals s3).length = n3 by unfold vals; rw [List.length_map, HL3.out])
        have hlj : ((vals s3).take j).length = j := by rw [List.length_take, HLV.out]; omega
        rw [hlj]
        rw [hlj] at HO3
        by_cases hlt : j < n3
        · have i9 : (j : Int) < (n3 : Int) := by omega
          obtain ⟨ad3, f, e3, hf3, d0, d1⟩ := (HS3.out.below HO3.out.below).atS hlt
          subst e3
          obtain ⟨ft, fv⟩ := f
          simp only at d0 d1
          have hv3 : (vals s3)[j]? = some fv := by unfold vals; rw [List.getElem?_map, hf3]; rfl
          obtain ⟨y3, hy3⟩ : ∃ y3, (vals s3).take j ++ [fv] = y3 := ⟨_, rfl⟩
          have HY3 := hid hy3
          have HYE := hid (show y3 = (vals s3).take (j + 1) by rw [← hy3, take_next hv3])
          have HYN := hid (show y3.length = j + 1 by rw [← hy3, List.length_append, hlj]; rfl)
          clear hf3 hv3 hy3 d0
          go_wp2_with (at_builtin; refine wpList_appY elmI gI_one rfl (.tmp 47) (.tmp 53) rfl (.slice Av j cv) ((vals s3).take j) rfl (HO3.out.alloc _) [fv] y3 HY3 rfl (Sl.fresh' _ #[_] 3 1 1 _ rfl rfl) rfl (by rw [HYN.out]; simp only [maxLen]; omega) (by rw [HYN.out]; omega) ?_; intro A4 c4 w4 hc4 hc5 HN4 _ _)
          go_roundw
          case rel => exact ⟨j + 1, by omega, by go_num, by rw [← HYE.out]; exact HN4⟩
          case measure => simp [intOf]; omega
        · obtain rfl : j = n3 := by omega
          have i9 : ¬ (j : Int) < (j : Int) := by omega
          rw [List.take_of_length_le (by rw [HLV.out]; exact Nat.le_refl _)] at HO3
          clear hlj
          have hown := HO3.out.own
          rw [HLV.out] at hown
          obtain ⟨b, c7, e7, _, _⟩ := own_at hown (by omega)
          injection e7 with e7 e8 e9
          subst e7
          subst e9
          clear e8
          have hblt := own_blt hown
          have HSV := hid (show Sl wr 1 (some ⟨b, 0, none⟩) (vals s3).length (ints (vals s3)) by have h := HO3.out.sl; rw [HLV.out]; exact h)
          have BR := hid HO3.out.below
          have HR := hid (rank_of b cv o p (vals s3) wr (by rw [HLV.out]; omega) (by rw [HLV.out]; omega) ho1 (by omega) hpo hblt HSV.out)
          rw [HLV.out] at HR
          have HM := hid (rank_one (l := vals s3) (o := o) (p := p) (by rw [HLV.out]; omega) hpo).1
          obtain ⟨x, hx⟩ : ∃ x, rk (vals s3) o p = x := ⟨_, rfl⟩
          rw [hx] at HR HM
          have hrc := rAll_c (vals s3)
          have hrb := rAll_bd (vals s3) x HM.out
          rw [HLV.out] at hrc
          have HRO := hid (fun w' hw' => roll_Of A3 j c3 s3 w' (by omega) (HS3.out.below (bgo BR.out hw')) HI3.out (HT.out.below (bgo B2.out (bgo BR.out hw'))))
          obtain ⟨r, hr⟩ : ∃ r, rAll (vals s3) = r := ⟨_, rfl⟩
          rw [hr] at hrc hrb HRO
          obtain ⟨rc, rn, rx, rs⟩ := r
          simp only at hrc hrb
          subst hrc
          clear hx hr hown HO3 HSV HM
          go_wp2_with fail
          refine (picked xo 100 wr (by decide) hb hb1 (by decide)).mono ?_
          rintro e w' ⟨rfl, rfl⟩
          go_wp2_with fail
          rw [HO.out, HO2.out]
          refine (picked xp ((o : Int) + 1) wr (by omega) ha ha1 (by omega)).mono ?_
          rintro e w' ⟨rfl, rfl⟩
          rw [HP.out]
          go_wp2_with fail
          refine HR.out.mono ?_
          rintro e w5 ⟨rfl, b5⟩
          go_wp2_with fail
          refine (HRO.out w5 b5).mono ?_
          rintro e w6 ⟨rfl, b6⟩
          have BE := hid (bgo B2.out (bgo BR.out (bgo b5 b6)))
          have HKR := hid (Blk.new w6 33 #[.int .i64 (j : Int), .int .i64 rn, .int .i64 rx, .int .i64 rs])
          have HG1 := hid (show ((j : Int) == (j : Int)) = true from by simp)
          have m1 : rn ≤ x := hrb.1
          have m2 : x ≤ rx := hrb.2
          clear hrb b5 b6
          go_wp2_with fail
          all_goals
            go_ret
            exact ⟨rfl, bgo BE.out (bnew (bnil _) _)⟩
end Go.Proofs.YtifpnfhmemdljaaDoor
