/-
  file.Put, file.Get, file.Record, file.first: their walks.
-/
import Derived.Test.YtpoaomjpbjcmbaaAdler
import Derived.Test.YtpoaomjpbjcmbaaRow
import Derived.Lib.SliceRun
namespace Go.Proofs.Ytpoaomjpbjcmbaa
open Go.RowKit
set_option linter.unusedVariables false

/-- a number as bytes, the highest first -/
def be (k n : Nat) : List UInt8 := (List.range k).map fun i => UInt8.ofNat (n / 2 ^ (8 * (k - 1 - i)))
theorem be_len (k n : Nat) : (be k n).length = k := by simp [be]
theorem be_at (k n j : Nat) (h : j < k) : (be k n)[j]? = some (UInt8.ofNat (n / 2 ^ (8 * (k - 1 - j)))) := by simp [be, h]

theorem file_put (w0 w : World) (v : Value) (l : List UInt8) (k n : Nat) (hk : k ≤ 4) (hn : n < 4294967296) (hl : l.length ≤ 100000) (h : Ow w0 w 5 1 gB v l) :
    Calls Try.prog 16 #[v, .int .i64 (k : Int), .int .i64 (n : Int)] w fun e w' => ∃ v', e = .returned v' ∧ Ow w0 w' 5 1 gB v' (l ++ be k n) := by
  have H := hid h; clear h
  go_enter Try.func16, Try.ntmps16
  go_wp2
  go_loopw [0, 7] (fun u i wr => ∃ j : Nat, j ≤ k ∧ i = .int .i64 ((k : Int) - 1 - (j : Int)) ∧ Ow w0 wr 5 1 gB u (l ++ (be k n).take j)) (fun _ i _ => (intOf i + 1).toNat)
  case atStart => exact ⟨0, by omega, by simp, by simpa using H.out⟩
  case round =>
    obtain ⟨j, hj, rfl, ho⟩ := hrel
    have HO := hid ho; clear ho
    by_cases hlt : j < k
    · have HT := hid (take_next (be_at k n j hlt))
      obtain ⟨y, hy⟩ : ∃ y, l ++ (be k n).take j = y := ⟨_, rfl⟩
      have hyl : y.length ≤ 100004 := by rw [← hy, List.length_append, List.length_take, be_len]; omega
      obtain ⟨i, hi⟩ : ∃ i, k - 1 - j = i := ⟨_, rfl⟩
      have hi4 : i < 4 := by omega
      have ei : (k : Int) - 1 - (j : Int) = (i : Int) := by omega
      obtain ⟨y1, hy1⟩ : ∃ y1, y ++ [UInt8.ofNat (n / 2 ^ (8 * i))] = y1 := ⟨_, rfl⟩
      have hy1l : y1.length ≤ 100005 := by rw [← hy1, List.length_append]; simp; omega
      have HY := hid hy1
      have HYE := hid (show l ++ (be k n).take (j + 1) = y1 by rw [HT.out, ← List.append_assoc, hy, hi, hy1])
      rw [hy] at HO
      rw [ei]
      have HI := hid ei; have HI2 := hid hi
      clear hy hy1 HT hi ei
      have HC := hid (show ((n : Int) / 2 ^ (8 * i) % 256) = ((UInt8.ofNat (n / 2 ^ (8 * i))).toNat : Int) by
        rw [show (UInt8.ofNat (n / 2 ^ (8 * i))).toNat = n / 2 ^ (8 * i) % 256 from rfl, Int.natCast_emod, Int.natCast_ediv, Int.natCast_pow]; rfl)
      go_wp2_with (at_builtin; refine wpList_appY elmB gB_one rfl (.tmp 14) (.tmp 20) rfl u0 y rfl (HO.out.alloc _) [UInt8.ofNat (n / 2 ^ (8 * i))] y1 HY rfl (by have := Sl.fresh wr #[.int .u8 ((n : Int) / 2 ^ (8 * i) % 256)] 5 1 1 rfl; rw [HC.out] at this; exact this) rfl (by simp only [maxLen]; omega) (by omega) ?_; intro A4 c4 w4 _ _ HN1 _ _)
      go_roundw
      case rel => exact ⟨j + 1, by omega, by have := HI.out; congr 1; omega, by rw [HYE.out]; exact HN1.out⟩
      case measure => simp [intOf] <;> omega
    · have E := hid (show (be k n).take j = be k n from List.take_of_length_le (by rw [be_len]; omega))
      rw [E.out] at HO
      have i1 : ¬ (0 : Int) ≤ (k : Int) - 1 - (j : Int) := by omega
      go_wp2
      go_ret
      exact ⟨_, rfl, HO.out⟩
/-- bytes as a number, the highest first -/
def nb (l : List UInt8) : Nat := l.foldl (fun v x => 256 * v + x.toNat) 0
theorem nb_snoc (l : List UInt8) (x : UInt8) : nb (l ++ [x]) = 256 * nb l + x.toNat := by unfold nb; rw [List.foldl_append]; rfl
theorem nb_lt (l : List UInt8) : nb l < 256 ^ l.length := by
  have H : ∀ n, ∀ bs : List UInt8, bs.length = n → nb bs < 256 ^ n := by
    intro n
    induction n with
    | zero => intro bs h; rw [List.eq_nil_of_length_eq_zero h]; decide
    | succ n ih =>
      intro bs h
      obtain ⟨cs, c, rfl⟩ : ∃ cs c, bs = cs ++ [c] := ⟨bs.take n, bs[n], by rw [List.take_append_getElem, List.take_of_length_le (by omega)]⟩
      have := ih cs (by simp at h; omega)
      have hc := c.toNat_lt
      rw [nb_snoc, Nat.pow_succ]; omega
  exact H _ l rfl
theorem file_get (A : Option Addr) (n c : Nat) (l : List UInt8) (w : World) (hn : n ≤ 4) (h : Sl w 1 A n (byts l)) :
    Calls Try.prog 23 #[.slice A n c] w fun e w' => e = .returned (.int .i64 (nb l : Int)) ∧ Below w.heap.size w w' := by
  have H := hid h; clear h
  have HL := hid H.out.lenb
  go_enter Try.func23, Try.ntmps23
  go_wp2
  go_loopw [3, 8] (fun v i wr => ∃ j : Nat, j ≤ n ∧ i = .int .i64 j ∧ v = .int .i64 (nb (l.take j) : Int) ∧ Below w.heap.size w wr) (fun _ i _ => n - (intOf i).toNat)
  case atStart => exact ⟨0, Nat.zero_le _, rfl, rfl, bnil w⟩
  case round =>
    obtain ⟨j, hj, rfl, rfl, hb⟩ := hrel
    have HB := hid hb; clear hb
    by_cases hlt : j < n
    · obtain ⟨ad, x, rfl, hx, c0⟩ := (H.out.below HB.out).at_ hlt
      have HN := hid (show nb (l.take (j + 1)) = 256 * nb (l.take j) + x.toNat by rw [take_next hx, nb_snoc])
      have hlen := nb_lt (l.take j)
      have h3 : (l.take j).length ≤ 3 := by rw [List.length_take]; omega
      have hv : nb (l.take j) < 16777216 := Nat.lt_of_lt_of_le hlen (Nat.le_trans (Nat.pow_le_pow_right (by decide) h3) (by decide))
      clear hlen h3 hx
      generalize nb (l.take j) = v at *
      have hx8 := x.toNat_lt
      have EB : bits .or .i64 ((v : Int) * 256) (x.toNat : Int) = ((256 * v + x.toNat : Nat) : Int) := by
        rw [show (v : Int) * 256 = ((v * 256 : Nat) : Int) by omega, i64_or _ _ (by omega) (by omega)]
        congr 1
        have h2 := Nat.two_pow_add_eq_or_of_lt (i := 8) hx8 v
        rw [Nat.mul_comm v 256]; exact h2.symm
      have i1 : (j : Int) < (n : Int) := by omega
      go_wp2
      go_roundw
      case rel => exact ⟨j + 1, by omega, by go_num, by rw [HN.out]; congr 1, HB.out⟩
      case measure => simp [intOf] <;> omega
    · have E := hid (show l.take j = l from List.take_of_length_le (by have := HL.out; omega))
      rw [E.out]
      have i1 : ¬ (j : Int) < (n : Int) := by omega
      go_wp2
      go_ret
      exact ⟨rfl, HB.out⟩
def adlN (l : List UInt8) : Nat := (adlOf l).toNat
theorem adlN_eq (l : List UInt8) : adlOf l = (adlN l : Int) := by
  have h := adlWith_ok (1, 0) adl_one_ok l
  unfold adlN adlOf adlSum; obtain ⟨h1, h2, h3, h4⟩ := h; omega
theorem adlN_lt (l : List UInt8) : adlN l < 4294967296 := by
  have h := adlWith_ok (1, 0) adl_one_ok l
  unfold adlN adlOf adlSum; obtain ⟨h1, h2, h3, h4⟩ := h; omega
/-- a record -/
def recOf (b : List UInt8) : List UInt8 := be 2 b.length ++ be 4 (adlN b) ++ b
theorem recOf_len (b : List UInt8) : (recOf b).length = 6 + b.length := by unfold recOf; rw [List.length_append, List.length_append, be_len, be_len]
theorem file_record (A : Option Addr) (n c : Nat) (l : List UInt8) (w : World) (hn : n ≤ 4000) (h : Sl w 1 A n (byts l)) :
    Calls Try.prog 8 #[.slice A n c] w fun e w' => ∃ v, e = .returned (.tuple #[v, .int .i64 0]) ∧ Ow w w' 5 1 gB v (recOf l) := by
  have H := hid h; clear h
  have hl := H.out.lenb
  go_enter Try.func8, Try.ntmps8
  go_wp2_with fail
  refine (file_put w w (.slice none 0 0) [] 2 n (by omega) (by omega) (by simp) (Ow.nil _ _ _ _)).mono ?_
  rintro e w1 ⟨v1, rfl, ho1⟩
  have HO1 := hid ho1; clear ho1
  go_wp2_with fail
  refine (adl_of A n c l w1 (by omega) (H.out.below HO1.out.below)).mono ?_
  rintro e w2 ⟨rfl, hb2⟩
  have HO2 := hid (HO1.out.step hb2); clear hb2
  rw [adlN_eq]
  have hal := adlN_lt l
  go_wp2_with fail
  refine (file_put w w2 v1 _ 4 (adlN l) (by omega) hal (by simp [be_len]) HO2.out).mono ?_
  rintro e w3 ⟨v3, rfl, ho3⟩
  have HO3 := hid ho3; clear ho3
  obtain ⟨y, hy⟩ : ∃ y, [] ++ be 2 n ++ be 4 (adlN l) = y := ⟨_, rfl⟩
  obtain ⟨y1, hy1⟩ : ∃ y1, y ++ l = y1 := ⟨_, rfl⟩
  have hyl : y1.length = 6 + n := by rw [← hy1, ← hy]; simp [be_len, hl]; omega
  have HR := hid (show recOf l = y1 by unfold recOf; rw [← hy1, ← hy, hl]; rfl)
  rw [hy] at HO3
  have HY1 := hid hy1; clear hy hy1
  go_wp2_with (at_builtin; refine wpList_appY elmB gB_one rfl (.tmp 12) (.tmp 13) rfl v3 y rfl HO3.out l y1 HY1 rfl (H.out.below HO3.out.below) hl (by simp only [maxLen]; omega) (by omega) ?_; intro A4 c4 w4 _ _ HN1 _ _)
  go_ret2
  rw [HR.out]
  have HN := HN1.out
  rw [hyl] at HN
  exact ⟨_, rfl, HN⟩
theorem clone_bytes (A : Option Addr) (n c : Nat) (l : List UInt8) (w : World) (hn : n ≤ 1000000) (h : Sl w 1 A n (byts l)) :
    Calls Try.prog 24 #[.slice A n c] w fun e w' => ∃ v, e = .returned v ∧ Ow w w' 5 1 gB v l := by
  have H := hid h; clear h
  have hl := H.out.lenb
  have H0 := hid (⟨⟨rfl, .inr ⟨w.heap.size, 0, #[], rfl, Nat.le_refl _, Blk.new w _ _, Nat.le_refl _, by simp [maxLen], rfl, rfl⟩⟩, bnew (bnil w) _⟩ : Ow w (w.alloc (.cells #[] 5)) 5 1 gB (.slice (some ⟨w.heap.size, 0, none⟩) 0 0) [])
  have hnil := fun (w : World) => Go.Lib.run_eql_slice_nil (P := Try.prog) w 23 5 A n c 0 0 Try.underlying23
  rcases A with _ | ad
  · obtain rfl : n = 0 := by
      rcases Nat.eq_zero_or_pos n with h | h
      · exact h
      · obtain ⟨ad, e, _⟩ := H.out.2 h; simp at e
    obtain rfl : l = [] := List.eq_nil_of_length_eq_zero hl
    go_enter Try.func24, Try.ntmps24
    go_wp2
    go_ret
    exact ⟨_, rfl, Ow.nil _ _ _ _⟩
  · go_enter Try.func24, Try.ntmps24
    go_wp2_with (at_builtin; refine wpList_appY elmB gB_one rfl (.tmp 5) (.tmp 6) rfl (.slice (some ⟨w.heap.size, 0, none⟩) 0 0) [] rfl H0.out l l (hid (List.nil_append _)) rfl (H.out.below (bnew (bnil w) _)) hl (by simp only [maxLen]; omega) (by omega) ?_; intro A4 c4 w4 _ _ HN1 _ _)
    go_ret
    have HN := HN1.out
    rw [hl] at HN
    exact ⟨_, rfl, HN⟩
/-- the first record of a file, or the error -/
def first1 (l : List UInt8) : List UInt8 × Nat :=
  if l.length < 6 then ([], 5) else
  if 4000 < nb (l.take 2) then ([], 1) else
  if l.length - 6 < nb (l.take 2) then ([], 5) else
  if adlN ((l.drop 6).take (nb (l.take 2))) = nb ((l.drop 2).take 4) then ((l.drop 6).take (nb (l.take 2)), 0) else ([], 10)
set_option maxHeartbeats 1000000 in
theorem file_first (A : Option Addr) (n c : Nat) (l : List UInt8) (w : World) (hn : n ≤ c) (hc : c ≤ maxLen) (h : Sl w 1 A n (byts l)) :
    Calls Try.prog 15 #[.slice A n c] w fun e w' => ∃ v, e = .returned (.tuple #[v, .int .i64 ((first1 l).2 : Int)]) ∧ Ow w w' 5 1 gB v (first1 l).1 := by
  have H := hid h; clear h
  have hl := H.out.lenb
  have hmx : maxLen = 9223372036854775807 := rfl
  by_cases h6 : n < 6
  · have E : first1 l = ([], 5) := by unfold first1; rw [if_pos (by omega)]
    rw [E]
    go_enter Try.func15, Try.ntmps15
    go_wp2
    go_ret2
    exact ⟨_, rfl, Ow.nil _ _ _ _⟩
  · obtain ⟨ad, rfl, _⟩ := H.out.2 (by omega)
    have HP2 := hid (H.out.preB (k := 2) (by omega))
    have HM := hid (H.out.midB (lo := 2) (m := 4) (by omega) (by omega))
    obtain ⟨k, hk⟩ : ∃ k, nb (l.take 2) = k := ⟨_, rfl⟩
    have hkl : k < 65536 := by
      rw [← hk]
      exact Nat.lt_of_lt_of_le (nb_lt _) (Nat.le_trans (Nat.pow_le_pow_right (by decide) (show (l.take 2).length ≤ 2 by rw [List.length_take]; omega)) (by decide))
    have E : first1 l = if 4000 < k then ([], 1) else if n - 6 < k then ([], 5) else if adlN ((l.drop 6).take k) = nb ((l.drop 2).take 4) then ((l.drop 6).take k, 0) else ([], 10) := by
      unfold first1; rw [if_neg (by omega), hk, hl]
    obtain ⟨r, hr⟩ : ∃ r, first1 l = r := ⟨_, rfl⟩
    rw [hr]
    rw [hr] at E
    have HE := hid E
    have HK := hid hk; clear hk E hr
    go_enter Try.func15, Try.ntmps15
    go_wp2_with fail
    refine (file_get (some ad) 2 c (l.take 2) w (by omega) HP2.out).mono ?_
    rintro e w1 ⟨rfl, hb1⟩
    have HB1 := hid hb1; clear hb1
    rw [HK.out]
    by_cases h4 : 4000 < k
    · have er : r = ([], 1) := by rw [HE.out, if_pos h4]
      have ER := hid er; clear er
      have i1 : (4000 : Int) < (k : Int) := by omega
      go_wp2
      go_ret2
      rw [ER.out]
      exact ⟨_, rfl, Ow.nil' HB1.out _ _ _⟩
    · rw [if_neg h4] at HE
      have i1 : ¬ (4000 : Int) < (k : Int) := by omega
      by_cases h5 : n - 6 < k
      · have er : r = ([], 5) := by rw [HE.out, if_pos h5]
        have ER := hid er; clear er
        have i2 : (n : Int) - 6 < (k : Int) := by omega
        go_wp2
        go_ret2
        rw [ER.out]
        exact ⟨_, rfl, Ow.nil' HB1.out _ _ _⟩
      · rw [if_neg h5] at HE
        have i2 : ¬ (n : Int) - 6 < (k : Int) := by omega
        have HM6 := hid (H.out.midB (lo := 6) (m := k) (by omega) (by omega))
        go_wp2_with fail
        obtain ⟨u, hu⟩ : ∃ u, adlN ((l.drop 6).take k) = u := ⟨_, rfl⟩
        obtain ⟨v, hv⟩ : ∃ v, nb ((l.drop 2).take 4) = v := ⟨_, rfl⟩
        rw [hu, hv] at HE
        have HU := hid (show adlOf ((l.drop 6).take k) = (u : Int) by rw [adlN_eq, hu])
        have HV := hid hv; clear hu hv
        have HM2 := hid (HM.out.below HB1.out)
        have HM62 : Hid (Sl w1 1 (if c = 6 then some ad else some ⟨ad.block, ad.off + 6, none⟩) k (byts ((l.drop 6).take k))) := by
          by_cases h : c = 6
          · rw [if_pos h]
            obtain rfl : k = 0 := by omega
            rw [List.take_zero]; exact Sl.nil _
          · rw [if_neg h]; exact HM6.out.below HB1.out
        by_cases huv : u = v
        · have er : r = ((l.drop 6).take k, 0) := by rw [HE.out, if_pos huv]
          have ER := hid er; clear er
          subst huv
          have e1 : ((u : Int) != (u : Int)) = false := by simp
          have j1 : (6 : Int) + (k : Int) ≤ (c : Int) := by omega
          have j2 : (6 : Int) ≤ (6 : Int) + (k : Int) := by omega
          have j3 : (0 : Int) ≤ (6 : Int) + (k : Int) := by omega
          have j4 : (6 : Int) ≤ (c : Int) := by omega
          have j5 : IntKind.i64.wrap ((6 : Int) + (k : Int)) = (6 : Int) + (k : Int) := IntWalk.i64_in _ (by omega)
          have j6 : ((6 : Int) + (k : Int)).toNat = 6 + k := by omega
          have j7 : ¬ c = 2 := by omega
          go_region_held3 (fun w' => Below w1.heap.size w1 w' ∧ True)
            (first | exact ⟨bnil _, trivial⟩ | exact ⟨(bnil _).drew, trivial⟩ | exact ⟨bgo' hbk (‹Below w1.heap.size w1 _ ∧ _›).1, trivial⟩ | exact ⟨(‹Below w1.heap.size w1 _ ∧ _›).1, trivial⟩)
            (first
              | ((with_reducible refine (adl_of _ _ _ ((l.drop 6).take k) _ ?_ (HM62.out.below ?_)).mono ?_); (· omega); (· exact (‹Below w1.heap.size w1 _ ∧ _›).1); rw [HU.out]; rintro e w9 ⟨rfl, hbk⟩; dsimp only)
              | ((with_reducible refine (file_get _ _ _ ((l.drop 2).take 4) _ ?_ (HM2.out.below ?_)).mono ?_); (· omega); (· exact (‹Below w1.heap.size w1 _ ∧ _›).1); rw [HV.out]; rintro e w9 ⟨rfl, hbk⟩; dsimp only))
          all_goals
            have HB9 := hid (bgo' (‹Below w1.heap.size w1 w9 ∧ _›).1 HB1.out)
            have HM9 := hid (HM62.out.below (‹Below w1.heap.size w1 w9 ∧ _›).1)
            clear hbk
            go_wp2_with fail
            all_goals
              have HM10 := HM9.out
              first | rw [if_pos ‹c = 6›] at HM10 | rw [if_neg ‹¬ c = 6›] at HM10
              have HMX := hid HM10
              clear HM9 HM10 HM62
              (with_reducible refine (clone_bytes _ _ _ ((l.drop 6).take k) _ (by omega) HMX.out).mono ?_)
              rintro e w10 ⟨v10, rfl, ho10⟩
              have HO10 := hid (ho10.from HB9.out); clear ho10
              go_wp2
              go_ret2
              rw [ER.out]
              exact ⟨_, rfl, HO10.out⟩
        · have er : r = ([], 10) := by rw [HE.out, if_neg huv]
          have ER := hid er; clear er
          have e1 : ((u : Int) != (v : Int)) = true := by simpa using (show ¬ (u : Int) = (v : Int) by omega)
          have e2 : ((v : Int) != (u : Int)) = true := by simpa using (show ¬ (v : Int) = (u : Int) by omega)
          have j1 : (6 : Int) + (k : Int) ≤ (c : Int) := by omega
          have j2 : (6 : Int) ≤ (6 : Int) + (k : Int) := by omega
          have j3 : (0 : Int) ≤ (6 : Int) + (k : Int) := by omega
          have j4 : (6 : Int) ≤ (c : Int) := by omega
          have j5 : IntKind.i64.wrap ((6 : Int) + (k : Int)) = (6 : Int) + (k : Int) := IntWalk.i64_in _ (by omega)
          have j6 : ((6 : Int) + (k : Int)).toNat = 6 + k := by omega
          have j7 : ¬ c = 2 := by omega
          go_region_held3 (fun w' => Below w1.heap.size w1 w' ∧ True)
            (first | exact ⟨bnil _, trivial⟩ | exact ⟨(bnil _).drew, trivial⟩ | exact ⟨bgo' hbk (‹Below w1.heap.size w1 _ ∧ _›).1, trivial⟩ | exact ⟨(‹Below w1.heap.size w1 _ ∧ _›).1, trivial⟩)
            (first
              | ((with_reducible refine (adl_of _ _ _ ((l.drop 6).take k) _ ?_ (HM62.out.below ?_)).mono ?_); (· omega); (· exact (‹Below w1.heap.size w1 _ ∧ _›).1); rw [HU.out]; rintro e w9 ⟨rfl, hbk⟩; dsimp only)
              | ((with_reducible refine (file_get _ _ _ ((l.drop 2).take 4) _ ?_ (HM2.out.below ?_)).mono ?_); (· omega); (· exact (‹Below w1.heap.size w1 _ ∧ _›).1); rw [HV.out]; rintro e w9 ⟨rfl, hbk⟩; dsimp only))
          all_goals
            have HB9 := hid (bgo' (‹Below w1.heap.size w1 w9 ∧ _›).1 HB1.out)
            clear hbk
            go_wp2
            all_goals
              go_ret2
              rw [ER.out]
              exact ⟨_, rfl, Ow.nil' HB9.out _ _ _⟩
end Go.Proofs.Ytpoaomjpbjcmbaa
