/-
  FileSees: its walk.
-/
import Derived.Test.YtejpcibcllnheaaFTorn
namespace Go.Proofs.Ytejpcibcllnheaa
open Go.RowKit
set_option linter.unusedVariables false
/-- a list of rows of the call's own, out of rows that came in and one new row -/
theorem rin_app {w w2 : World} {ls : List (List UInt8)} {vs : List Value} {v2 : Value} {A2 : Option Addr} {n2 c2 g : Nat} {b : List UInt8} (hv2 : v2 = .slice A2 n2 c2)
    (hvs : ∀ (i : Nat) (v : Value) (l : List UInt8), vs[i]? = some v → ls[i]? = some l → SlB w v l) (hl : vs.length = ls.length) (hb : Below w.heap.size w w2)
    (ho : w2.ownsRow w.heap.size 22 1 v2 (vs.length + 1) (vs ++ [.slice (some ⟨g, 0, none⟩) b.length b.length]))
    (hg : Sl w2 1 (some ⟨g, 0, none⟩) b.length (byts b)) (hbl : b.length ≤ maxLen) : n2 = ls.length + 1 ∧ Rin w2 A2 n2 (ls ++ [b]) := by
  subst hv2
  have hs := Sl.own (A := A2) (n := n2) (c := c2) (xs := vs ++ [.slice (some ⟨g, 0, none⟩) b.length b.length]) (w := w2) (base := w.heap.size) (e := 22) (sz := 1) (by
    have : n2 = vs.length + 1 := by
      rcases ho.2 with ⟨h1, h2⟩ | ⟨g', cap, cur, h1, _⟩
      · simp at h2
      · injection h1
    subst this; exact ho)
  have hn2 : n2 = vs.length + 1 := by
    rcases ho.2 with ⟨h1, h2⟩ | ⟨g', cap, cur, h1, _⟩
    · simp at h2
    · injection h1
  refine ⟨by rw [hn2, hl], by rw [hn2, hl]; simp, _, hs, fun i v l hv hll => ?_⟩
  by_cases hi : i < vs.length
  · rw [List.getElem?_append_left hi] at hv
    rw [List.getElem?_append_left (by rw [← hl]; exact hi)] at hll
    exact (hvs i v l hv hll).below hb
  · have hi' : i = vs.length := by
      have := (List.getElem?_eq_some_iff.1 hv).1; simp at this; omega
    subst hi'
    simp at hv; subst hv
    rw [hl] at hll; simp at hll; subst hll
    exact ⟨_, _, rfl, Nat.le_refl _, hbl, hg⟩
theorem fFile_at (rs : List (List UInt8)) (i j : Nat) (b : List UInt8) (u : UInt8) (hb : rs[i]? = some b) (hu : b[j]? = some u) : (fFile rs)[fLen rs i + 6 + j]? = some u := by
  have hi := (List.getElem?_eq_some_iff.1 hb).1
  have hbe : rs[i] = b := by rw [List.getElem?_eq_getElem hi] at hb; injection hb
  have hj := (List.getElem?_eq_some_iff.1 hu).1
  have e0 : fFile rs = fFile (rs.take i) ++ ((be 2 b.length ++ be 4 (adlN b)) ++ (b ++ fFile (rs.drop (i + 1)))) := by
    conv => lhs; rw [← List.take_append_drop i rs, fFile_app, List.drop_eq_getElem_cons hi, hbe]
    unfold fFile recOf
    rw [List.flatMap_cons]; simp only [List.append_assoc]
  rw [e0]
  unfold fLen
  rw [List.getElem?_append_right (by omega), List.getElem?_append_right (by simp [be_len]; omega), List.getElem?_append_left (by simp [be_len]; omega), ← hu]
  congr 1
  simp [be_len]; omega
set_option maxHeartbeats 2000000 in
set_option maxRecDepth 100000 in
theorem law_fileSees (A : Option Addr) (n c : Nat) (ls : List (List UInt8)) (which at_ d : Int) (w : World) (hn : n ≤ c) (hc : c ≤ maxLen) (_ : c * 24 ≤ 140737488351232) (hx : Rin w A n ls) (ha : -9223372036854775808 ≤ which) (ha1 : which ≤ 9223372036854775807) (hb : -9223372036854775808 ≤ at_) (hb1 : at_ ≤ 9223372036854775807) (hd : 0 ≤ d) (hd1 : d < 256) :
    Calls Try.prog 13 #[.slice A n c, .int .i64 which, .int .i64 at_, .int .u8 d] w fun e w' => e = .returned (.bool true) ∧ Below w.heap.size w w' := by
  obtain ⟨by_, rfl⟩ : ∃ b : UInt8, d = (b.toNat : Int) := ⟨UInt8.ofNat d.toNat, by simp; omega⟩
  obtain ⟨hx1, vs, hx2, hx3⟩ := hx
  obtain ⟨m, hm⟩ : ∃ m, min n 20 = m := ⟨_, rfl⟩
  have hmn : m ≤ n := by omega
  have hm20 : m ≤ 20 := by omega
  have hvl : vs.length = n := by have := hx2.1; omega
  have hpre := hx2.pre hmn
  rw [Nat.mul_one] at hpre
  have HP := hid hpre
  have HX3 := hid (show ∀ (i : Nat) (v : Value) (l : List UInt8), (vs.take m)[i]? = some v → (ls.take m)[i]? = some l → SlB w v l by
    intro i v l h1 h2
    have hi : i < m := by have := (List.getElem?_eq_some_iff.1 h1).1; simp at this; omega
    rw [List.getElem?_take, if_pos hi] at h1 h2
    exact hx3 i v l h1 h2)
  have HVL := hid (show (vs.take m).length = m by rw [List.length_take]; omega)
  have HLL := hid (show (ls.take m).length = m by rw [List.length_take]; omega)
  have hone : ∀ u ∈ vs.take m, u.oneCell' = true := by
    intro u hu
    obtain ⟨i, hi, rfl⟩ := List.getElem_of_mem hu
    obtain ⟨A', c', e, _⟩ := HX3.out i _ ((ls.take m)[i]'(by rw [HLL.out]; rw [HVL.out] at hi; exact hi)) (List.getElem?_eq_getElem hi) (List.getElem?_eq_getElem _)
    rw [e]; rfl
  have HONE := hid hone
  clear hx2 hx3 hpre hone hvl hx1
  generalize vs.take m = ws at *
  generalize ls.take m = ms at *
  have hmm : (if (20 : Int) < (n : Int) then (20 : Int) else (n : Int)) = (m : Int) := by split <;> omega
  have hmc : (m : Int) ≤ (c : Int) := by omega
  have hmc2 : m ≤ c := by omega
  unfold maxLen at hc
  clear hm
  go_enter Try.func13, Try.ntmps13
  go_wp2_with (first
    | (at_builtin; refine wpList_app0 elmR rfl (.const (.slice none 0 0)) (.tmp 24) rfl rfl rfl HP.out HONE.out (by simp only [maxLen]; omega) (by omega) ?_; intro v1 w1 hown1 hb1; have HOW1 := hid hown1; have HBE1 := hid hb1; clear hown1 hb1)
    | (at_builtin; refine wpList_app elmR rfl (.tmp 25) (.tmp 27) rfl (base := w.heap.size) v1 (n := m) (xs := ws) rfl (own_below HOW1.out (bnew (bnew (bnil _) _) _)) rfl (Sl.fresh1 w1 (.cells #[.int .u8 1, .int .u8 2, .int .u8 3] 5) #[.slice (some ⟨w1.heap.size, 0, none⟩) 3 3] 22 1 1 rfl) (by intro u hu; simp at hu; subst hu; rfl) (by simp only [maxLen]; omega) (by omega) (by have := HBE1.out.size; simp; omega) ?_; intro v2 w2 hown2 hg2 _; have HOW2 := hid hown2; have HG2 := hid hg2; clear hown2 hg2))
  have HB2 : Hid (Below w.heap.size w w2) := hid (below_app (bnew (bnew HBE1.out _) _) (own_below HOW1.out (bnew (bnew (bnil _) _) _)) HG2.out (by have := HBE1.out.size; simp; omega))
  have HS2 : Hid (Sl w2 1 (some ⟨w1.heap.size, 0, none⟩) 3 (byts [1, 2, 3])) := by
    have h1 : Blk ((w1.alloc (.cells #[.int .u8 1, .int .u8 2, .int .u8 3] 5)).alloc (.cells #[.slice (some ⟨w1.heap.size, 0, none⟩) 3 3] 22)) w1.heap.size 5 #[.int .u8 1, .int .u8 2, .int .u8 3] := (Blk.new w1 _ _).alloc _
    have h2 : Blk w2 w1.heap.size 5 #[.int .u8 1, .int .u8 2, .int .u8 3] :=
      (Chg.of_grown (M := fun k => v1.ownBlock = some k) HG2.out (fun k hk => hk)).blk h1 fun e => by
        have := (own_lt HOW1.out e).2; omega
    refine ⟨rfl, fun _ => ⟨_, rfl, fun j u hu => ?_⟩⟩
    rw [ad_at, h2.cell, ← Array.getElem?_toList]
    exact hu
  obtain ⟨A2, c2, rfl, hc1, hc2⟩ := own_form HOW2.out
  obtain ⟨hn2, hrin⟩ := rin_app (A2 := A2) (n2 := m + 1) (c2 := c2) (b := [1, 2, 3]) rfl HX3.out (by rw [HVL.out, HLL.out]) HB2.out (by rw [HVL.out]; exact HOW2.out) HS2.out (by simp [maxLen])
  have HRI := hid hrin
  clear hn2 hrin
  have HLY := hid (show (ms ++ [[1, 2, 3]]).length = m + 1 by simp [HLL.out])
  generalize ms ++ [[1, 2, 3]] = ys at *
  refine (file_of A2 (m + 1) c2 21 ys w2 hc1 hc2 (by omega) HRI.out).mono ?_
  rintro e w3 ⟨v3, v4, rfl, ho1, hr1⟩
  have hrl := fRecs_len ys 21
  have hrm := fRecs_mem ys 21
  generalize fRecs ys 21 = rs at *
  have hfl := fFile_len rs hrm
  obtain ⟨A3, c3, rfl, hc3, hc4⟩ := ho1.form
  obtain ⟨A4, c4, rfl, hc5, hc6⟩ := hr1.form
  obtain ⟨f, hf⟩ : ∃ f, fFile rs = f := ⟨_, rfl⟩
  obtain ⟨k, hk⟩ : ∃ k, rs.length = k := ⟨_, rfl⟩
  obtain ⟨q, hq⟩ : ∃ q, f.length = q := ⟨_, rfl⟩
  have hfg := fFile_ge rs
  rw [HLY.out] at hrl
  have hk60 : k ≤ 21 := by omega
  have hk0 : 1 ≤ k := by omega
  rw [hf] at ho1 hc3 hfl hfg hr1
  have hq6 : q ≤ 10000 := by omega
  have hq0 : 6 ≤ q := by omega
  have HO1 := hid ho1; have HR1 := hid hr1.none_; clear ho1 hr1
  rw [hk] at HR1 hc5 ⊢
  rw [hf]
  rw [hq] at HO1 hc3 ⊢
  have HK := hid hk; have HQ := hid hq; have HRM := hid hrm; have HF := hid hf
  clear hk hq hrl hfl hrm hf hfg
  have HB3 := hid (bgo' HO1.out.below HB2.out)
  by_cases hz : by_.toNat = 0
  · have hz1 : (((by_.toNat : Nat) : Int) == 0) = true := by simp; omega
    go_wp2
    go_ret
    exact ⟨rfl, HB3.out⟩
  · have hz1 : (((by_.toNat : Nat) : Int) == 0) = false := by simp; omega
    go_wp2_with fail
    refine (picked which _ w3 (by omega) ha ha1 (by omega)).mono ?_
    rintro e w3 ⟨rfl, rfl⟩
    have hp := pk_lt which (k : Int) (by omega)
    generalize pk which (k : Int) = p at *
    have hpk : p < k := by omega
    clear hp
    go_wp2
    go_loop [13, 14] (fun u i => ∃ j : Nat, j ≤ p ∧ i = .int .i64 j ∧ u = .int .i64 (fLen rs j)) (fun _ i => p - (intOf i).toNat)
    case atStart => exact ⟨0, Nat.zero_le _, rfl, rfl⟩
    case round =>
      obtain ⟨j, hj, rfl, rfl⟩ := hrel
      by_cases hlt : j < p
      · obtain ⟨ad2, l, B2, d2, rfl, hl2, e2, hd3, hd4, hs2⟩ := HR1.out.at_ (i := j) (by omega)
        have hs := fLen_succ hl2
        have hm := fLen_le rs j
        have hl100 := HRM.out l (List.mem_of_getElem? hl2)
        rw [HF.out, HQ.out] at hm
        obtain ⟨u, hu⟩ : ∃ u, fLen rs j = u := ⟨_, rfl⟩
        rw [hu] at hs hm ⊢
        have i1 : (j : Int) < (p : Int) := by omega
        have HU := hid hu; have HS := hid hs
        clear hs hl2 hs2 hu
        go_wp2
        go_round
        case rel => exact ⟨j + 1, by omega, by go_num, by rw [HS.out]; congr 1; omega⟩
        case measure => simp [intOf]; omega
      · obtain rfl : j = p := by omega
        obtain ⟨ad2, l, B2, d2, rfl, hl2, e2, hd3, hd4, hs2⟩ := HR1.out.at_ (i := j) (by omega)
        have hl100 := HRM.out l (List.mem_of_getElem? hl2)
        have HL2 := hid hl2
        have hs := fLen_succ hl2
        have hm := fLen_le rs (j + 1)
        rw [HF.out, HQ.out, hs] at hm
        obtain ⟨s0, hs0⟩ : ∃ s0, fLen rs j = s0 := ⟨_, rfl⟩
        rw [hs0] at hm ⊢
        have HS0 := hid hs0
        have HS2b := hid hs2
        clear hs hl2 hs2 hs0
        have i1 : ¬ (j : Int) < (j : Int) := by omega
        by_cases hl0 : l.length = 0
        · have hl1 := beqT (show (l.length : Int) = 0 by omega)
          have hq1 : decide ((0 : Int) < (q : Int)) = true := by simp; omega
          have hq2 : decide (0 < q) = true := by simp; omega
          have hq3 : 0 < q := by omega
          go_wp2
          go_ret
          exact ⟨rfl, HB3.out⟩
        · have hl1 := beqF (show (l.length : Int) ≠ 0 by omega)
          obtain ⟨y, hy⟩ : ∃ y, l.length = y := ⟨_, rfl⟩
          have HY := hid hy
          rw [hy] at e2 hd3 hl100 HS2b hm hl0 hl1
          clear hy
          have hy0 : 1 ≤ y := by omega
          go_wp2_with (at_builtin; refine wpList_appY elmB gB_one rfl (.const (.slice none 0 0)) (.tmp 66) rfl (.slice none 0 0) [] rfl (Ow.nil _ _ _ _) f f (hid (List.nil_append f)) rfl HO1.out.sl HQ.out (by rw [HQ.out]; simp only [maxLen]; omega) (by rw [HQ.out]; omega) ?_; intro A5 c5 w5 hc7 hc8 HN1 _ _; have e5 := cell_below HN1.out.below e2)
          go_wp2_with fail
          refine (picked at_ _ w5 (by omega) hb hb1 (by omega)).mono ?_
          rintro e w5 ⟨rfl, rfl⟩
          have hp2 := pk_lt at_ (y : Int) (by omega)
          generalize pk at_ (y : Int) = z at *
          have hzy : z < y := by omega
          clear hp2
          obtain ⟨u, hu⟩ : ∃ u, l[z]? = some u := ⟨_, List.getElem?_eq_getElem (by rw [HY.out]; exact hzy)⟩
          have hfu := fFile_at rs j z l u HL2.out hu
          rw [HF.out, HS0.out] at hfu
          obtain ⟨X, hX⟩ : ∃ X, s0 + 6 + z = X := ⟨_, rfl⟩
          rw [hX] at hfu
          have EX := xor_u8 u by_
          have hne : u ^^^ by_ ≠ u := by
            intro h
            have h2 := xor_self_iff u by_
            rw [h] at h2
            simp at h2
            exact hz (by rw [h2]; rfl)
          generalize u ^^^ by_ = t at *
          have HOF : Hid (openF (f.set X t) = (rs.take j, s0, 10)) := by
            have h := openF_sees rs j z l u t (fun b hb => by have := HRM.out b hb; omega) (by rw [HK.out]; omega) HL2.out hu hne
            rw [show (fFile (rs.take j)).length = s0 from HS0.out, HF.out, hX] at h
            exact h
          have HFU := hid hfu
          have hXq : X < f.length := by rw [HQ.out]; omega
          obtain ⟨g5, cur5, rfl, _, _, _, _, _, _⟩ := HN1.out.row (by omega)
          obtain ⟨cx0, cx1⟩ := HN1.out.cellB hfu
          have ez0 : (0 : Int) ≤ (s0 : Int) + 6 + (z : Int) := by omega
          have ez1 : (s0 : Int) + 6 + (z : Int) < (f.length : Int) := by omega
          have ez3 : ((s0 : Int) + 6 + (z : Int)).toNat = X := by omega
          clear hu hfu hX hne
          go_wp2_with fail
          have HSET := hid (HN1.out.set (i := X) hXq t)
          have hsl : (f.set X t).length = f.length := List.length_set
          have HC := file_open (some ⟨g5, 0, none⟩) f.length c5 (f.set X t) _ hc7 hc8 (by rw [HQ.out]; omega) HSET.out.sl
          rw [HOF.out] at HC
          simp only at HC
          refine HC.mono ?_
          clear HC
          rintro e w6 ⟨v6, rfl, hr6⟩
          obtain ⟨A6, c6, rfl, hc9, hc10⟩ := hr6.form
          have htl : (rs.take j).length = j := by rw [List.length_take, HK.out]; omega
          rw [htl] at hc9 ⊢
          have HB6 := hid (bgo' hr6.below (bgo' HSET.out.below HB3.out))
          clear htl hr6
          go_wp2
          go_ret
          exact ⟨rfl, HB6.out⟩
end Go.Proofs.Ytejpcibcllnheaa
