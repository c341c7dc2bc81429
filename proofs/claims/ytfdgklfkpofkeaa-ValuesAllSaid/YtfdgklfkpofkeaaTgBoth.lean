/-
  cmp.Less, slices.BinarySearch of numbers in order, tags.both, tags.fault: their walks.
-/
import Derived.Test.YtfdgklfkpofkeaaTgIdx
namespace Go.Proofs.Ytfdgklfkpofkeaa
open Go.RowKit Go.Maps
set_option linter.unusedVariables false

theorem isnan_s (a : Int) (w : World) : Calls Try.prog 53 #[.int .i64 a] w fun e w' => e = .returned (.bool false) ∧ w' = w := by
  have q : ((a : Int) != (a : Int)) = false := by simp
  go_enter Try.func53, Try.ntmps53
  go_wp2_with fail
  go_ret
  exact ⟨rfl, rfl⟩
theorem isnan_c (a : Int) (w : World) : Calls Try.prog 65 #[.int .i64 a] w fun e w' => e = .returned (.bool false) ∧ w' = w := by
  have q : ((a : Int) != (a : Int)) = false := by simp
  go_enter Try.func65, Try.ntmps65
  go_wp2_with fail
  go_ret
  exact ⟨rfl, rfl⟩
theorem less_int (a b : Int) (w : World) : Calls Try.prog 52 #[.int .i64 a, .int .i64 b] w fun e w' => e = .returned (.bool (decide (a < b))) ∧ w' = w := by
  go_enter Try.func52, Try.ntmps52
  go_wp2_with fail
  refine (isnan_c a _).mono ?_
  rintro e w1 ⟨rfl, rfl⟩
  go_wp2_with fail
  go_ret
  exact ⟨rfl, rfl⟩
theorem cast_at {l : List Nat} {k x : Nat} (h : l[k]? = some x) : (castL l)[k]? = some (x : Int) := by unfold castL; rw [List.getElem?_map, h]; rfl
theorem cast_cell {w : World} {A : Option Addr} {n : Nat} {l : List Nat} (h : Sl w 1 A n (ints (castL l))) (hl : l.length = n) {k : Nat} (hk : k < n) : ∃ ad x, A = some ad ∧ l[k]? = some x ∧ w.cell? (ad.add k) = some (.int .i64 (x : Int)) := by
  obtain ⟨ad, e, hc⟩ := h.2 (by omega)
  have hx : l[k]? = some l[k] := List.getElem?_eq_getElem (by omega)
  exact ⟨ad, l[k], e, hx, hc k _ (ints_at (cast_at hx))⟩
set_option maxRecDepth 100000 in
set_option maxHeartbeats 4000000 in
theorem bsearch (A : Option Addr) (m c x : Nat) (l : List Nat) (w : World) (hm : m ≤ 100) (h : Sl w 1 A m (ints (castL l))) (hl : l.length = m) (ha : l.Pairwise fun a b => a < b) :
    Calls Try.prog 46 #[.slice A m c, .int .i64 (x : Int)] w fun e w' => ∃ p : Int, e = .returned (.tuple #[.int .i64 p, .bool (decide (x ∈ l))]) ∧ w' = w := by
  have H := hid h; have HL := hid hl; have HA := hid ha
  clear h hl ha
  have hasc : ∀ (p q a b : Nat), p < q → l[p]? = some a → l[q]? = some b → a < b := fun p q a b hpq h1 h2 => by
    have := HA.out
    rw [List.pairwise_iff_getElem] at this
    obtain ⟨l1, e1⟩ := List.getElem?_eq_some_iff.1 h1
    obtain ⟨l2, e2⟩ := List.getElem?_eq_some_iff.1 h2
    have h := this p q l1 l2 hpq
    rw [e1, e2] at h; exact h
  have HASC := hid hasc
  clear hasc
  go_enter Try.func46, Try.ntmps46
  go_wp2_with fail
  go_loopw [7, 8] (fun vi vj wr => ∃ i j : Nat, i ≤ j ∧ j ≤ m ∧ vi = .int .i64 i ∧ vj = .int .i64 j ∧ wr = w ∧ Hid ((∀ p q, p < i → l[p]? = some q → q < x) ∧ (∀ p q, j ≤ p → l[p]? = some q → x ≤ q))) (fun vi vj _ => (intOf vj).toNat - (intOf vi).toNat)
  case atStart => exact ⟨0, m, Nat.zero_le _, Nat.le_refl _, rfl, rfl, rfl, hid ⟨fun p q h => by omega, fun p q h1 h2 => by have := (List.getElem?_eq_some_iff.1 h2).1; have := HL.out; omega⟩⟩
  case round =>
    obtain ⟨i, j, hij, hjm, rfl, rfl, rfl, HI⟩ := hrel
    by_cases hlt : i < j
    · have i1 : (i : Int) < (j : Int) := by omega
      obtain ⟨h, hh⟩ : ∃ h, (i + j) / 2 = h := ⟨_, rfl⟩
      have hhm : h < m := by omega
      obtain ⟨ad, y, rfl, hy, cy⟩ := cast_cell H.out HL.out hhm
      have ie : ((i : Int) + (j : Int)) / 2 = (h : Int) := by omega
      have i2 : (h : Int) < (m : Int) := by omega
      have HY := hid hy
      have HHH := hid hh
      clear hy hh
      go_wp2_with fail
      refine (less_int (y : Int) (x : Int) _).mono ?_
      rintro e w1 ⟨rfl, rfl⟩
      by_cases hyx : y < x
      · have q1 : (y : Int) < (x : Int) := by omega
        have HQ := hid hyx
        clear hyx
        go_wp2_with fail
        go_roundw
        case rel => exact ⟨h + 1, j, by omega, by omega, by go_num, rfl, trivial, hid ⟨fun p q hp hq => by
            rcases Nat.lt_or_ge p h with h1 | h1
            · exact Nat.lt_trans (HASC.out p h q y h1 hq HY.out) HQ.out
            · obtain rfl : p = h := by omega
              rw [HY.out] at hq; injection hq with hq; subst hq; exact HQ.out, HI.out.2⟩⟩
        case measure => simp [intOf]; omega
      · have q1 : ¬ (y : Int) < (x : Int) := by omega
        have HQ := hid hyx
        clear hyx
        go_wp2_with fail
        go_roundw
        case rel => exact ⟨i, h, by omega, by omega, rfl, rfl, trivial, hid ⟨HI.out.1, fun p q hp hq => by
            rcases Nat.lt_or_ge h p with h1 | h1
            · have := HASC.out h p y q h1 HY.out hq; have := HQ.out; omega
            · obtain rfl : p = h := by omega
              rw [HY.out] at hq; injection hq with hq; subst hq; have := HQ.out; omega⟩⟩
        case measure => simp [intOf]; omega
    · obtain rfl : i = j := by omega
      have i0 : ¬ (i : Int) < (i : Int) := by omega
      by_cases him : i < m
      · obtain ⟨ad, y, rfl, hy, cy⟩ := cast_cell H.out HL.out him
        have i1 : (i : Int) < (m : Int) := by omega
        by_cases hyx : y = x
        · subst hyx
          have q1 : ((y : Int) == (y : Int)) = true := by simp
          have hmem : decide (y ∈ l) = true := by simpa using List.mem_of_getElem? hy
          have HM := hid hmem
          clear hy hmem
          go_wp2_with fail
          refine bodyPost_ret (v := .tuple #[.int .i64 (i : Int), .bool true]) (by simp [results, Try.results46, go_sem]) rfl ?_
          first | exact ⟨(i : Int), by rw [HM.out], rfl⟩ | exact ⟨⟨(i : Int), by rw [HM.out]⟩, rfl⟩
        · have q1 : ((y : Int) == (x : Int)) = false := by simp; omega
          have hmem : decide (x ∈ l) = false := by
            rw [decide_eq_false_iff_not]
            intro h
            obtain ⟨p, hp⟩ := List.getElem?_of_mem h
            rcases Nat.lt_trichotomy p i with h1 | h1 | h1
            · have := HI.out.1 p x h1 hp; omega
            · subst h1; rw [hy] at hp; injection hp with hp; exact hyx hp
            · have h2 := HASC.out i p y x h1 hy hp
              have h3 := HI.out.2 i y (Nat.le_refl _) hy
              omega
          have HM := hid hmem
          clear hy hmem hyx
          go_wp2_with fail
          refine (isnan_s _ _).mono ?_
          rintro e w1 ⟨rfl, rfl⟩
          go_wp2_with fail
          refine bodyPost_ret (v := .tuple #[.int .i64 (i : Int), .bool false]) (by simp [results, Try.results46, go_sem]) rfl ?_
          first | exact ⟨(i : Int), by rw [HM.out], rfl⟩ | exact ⟨⟨(i : Int), by rw [HM.out]⟩, rfl⟩
      · have i1 : ¬ (i : Int) < (m : Int) := by omega
        have hmem : decide (x ∈ l) = false := by
          rw [decide_eq_false_iff_not]
          intro h
          obtain ⟨p, hp⟩ := List.getElem?_of_mem h
          have := (List.getElem?_eq_some_iff.1 hp).1
          have := HL.out
          have := HI.out.1 p x (by omega) hp
          omega
        have HM := hid hmem
        clear hmem
        go_wp2_with fail
        refine bodyPost_ret (v := .tuple #[.int .i64 (i : Int), .bool false]) (by simp [results, Try.results46, go_sem]) rfl ?_
        first | exact ⟨(i : Int), by rw [HM.out], rfl⟩ | exact ⟨⟨(i : Int), by rw [HM.out]⟩, rfl⟩

set_option maxRecDepth 100000 in
set_option maxHeartbeats 4000000 in
theorem tags_both (A B : Option Addr) (n m c d : Nat) (l k : List Nat) (b : Bool) (w : World) (hn : n ≤ 100) (hm : m ≤ 100) (hA : Sl w 1 A n (ints (castL l))) (hB : Sl w 1 B m (ints (castL k))) (hl : l.length = n) (hk : k.length = m) (ha : k.Pairwise fun a b => a < b) :
    Calls Try.prog 35 #[.slice A n c, .slice B m d, .bool b] w fun e w' => ∃ A' c', e = .returned (.slice A' (l.filter fun x => decide (x ∈ k) == b).length c') ∧ Ow w w' 3 1 gI (.slice A' (l.filter fun x => decide (x ∈ k) == b).length c') (castL (l.filter fun x => decide (x ∈ k) == b)) := by
  have HA := hid hA; have HB := hid hB; have HL := hid hl; have HK := hid hk; have HAS := hid ha
  clear hA hB hl hk ha
  go_enter Try.func35, Try.ntmps35
  go_wp2_with fail
  go_loopw [7, 14] (fun v q wr => ∃ (i : Nat) (A' : Option Addr) (c' : Nat), i ≤ n ∧ v = .slice A' ((l.take i).filter fun x => decide (x ∈ k) == b).length c' ∧ q = .int .i64 i ∧ Hid (Ow w wr 3 1 gI (.slice A' ((l.take i).filter fun x => decide (x ∈ k) == b).length c') (castL ((l.take i).filter fun x => decide (x ∈ k) == b)))) (fun _ q _ => n - (intOf q).toNat)
  case atStart => exact ⟨0, none, 0, Nat.zero_le _, rfl, rfl, hid (Ow.nil w _ 1 gI)⟩
  case round =>
    obtain ⟨i, A', c', hi, rfl, rfl, HR⟩ := hrel
    by_cases hlt : i < n
    · obtain ⟨ad, x, rfl, hx, cx⟩ := cast_cell (HA.out.below HR.out.below) HL.out hlt
      have i1 : (i : Int) < (n : Int) := by omega
      have HX := hid hx
      have hnext := take_next hx
      clear hx
      obtain ⟨F, hF⟩ : ∃ F, ((l.take i).filter fun x => decide (x ∈ k) == b) = F := ⟨_, rfl⟩
      have hFl : F.length ≤ i := by rw [← hF]; exact Nat.le_trans (List.length_filter_le _ _) (by rw [List.length_take]; omega)
      rw [hF] at HR ⊢
      have HFE := hid hF
      have HNX := hid hnext
      clear hF hnext
      go_wp2_with fail
      refine (bsearch B m d x k _ hm (HB.out.below HR.out.below) HK.out HAS.out).mono ?_
      rintro e w1 ⟨p, rfl, rfl⟩
      obtain ⟨hb, hhb⟩ : ∃ hb, decide (x ∈ k) = hb := ⟨_, rfl⟩
      rw [hhb]
      have HHB := hid hhb
      clear hhb
      by_cases hbb : hb = b
      · subst hbb
        have q1 : (hb == hb) = true := by simp
        have HNF := hid (show ((l.take (i + 1)).filter fun x => decide (x ∈ k) == hb) = F ++ [x] from by rw [HNX.out, List.filter_append, HFE.out, List.filter_cons_of_pos (by simp [HHB.out])]; rfl)
        have HYL := hid (show (castL F ++ [(x : Int)]) = castL (F ++ [x]) from castL_app F x)
        have HFL := hid (show (castL (F ++ [x])).length = (F ++ [x]).length from castL_len _)
        have HFM := hid (show (F ++ [x]).length = F.length + 1 from by simp)
        go_wp2_with (at_builtin; refine wpList_appY elmI gI_one rfl (.tmp 27) (.tmp 29) rfl (.slice A' F.length c') (castL F) rfl (HR.out.alloc _) [(x : Int)] (castL (F ++ [x])) HYL rfl (Sl.fresh' _ #[_] 3 1 1 _ rfl rfl) rfl (by rw [HFL.out, HFM.out]; simp only [maxLen]; omega) (by rw [HFL.out, HFM.out]; omega) ?_; intro A7 c7 w7 hc7 hc8 O7 G7 _)
        rw [HFL.out] at O7 ⊢
        rw [← HNF.out] at O7 ⊢
        clear G7
        go_roundw
        case rel => exact ⟨i + 1, A7, c7, by omega, rfl, by go_num, O7⟩
        case measure => simp [intOf]; omega
      · have q1 : (hb == b) = false := by simp [hbb]
        have HNF := hid (show ((l.take (i + 1)).filter fun x => decide (x ∈ k) == b) = F from by rw [HNX.out, List.filter_append, HFE.out, List.filter_cons_of_neg (by simp [HHB.out, hbb])]; simp)
        clear hbb
        go_wp2_with fail
        go_roundw
        case rel => exact ⟨i + 1, A', c', by omega, by rw [HNF.out], by go_num, hid (by rw [HNF.out]; exact HR.out)⟩
        case measure => simp [intOf]; omega
    · obtain rfl : i = n := by omega
      have hall : l.take i = l := List.take_of_length_le (by rw [HL.out]; exact Nat.le_refl _)
      rw [hall] at HR ⊢
      clear hall
      go_wp2_with fail
      refine bodyPost_ret (v := .slice A' (l.filter fun x => decide (x ∈ k) == b).length c') (by simp [results, Try.results35, go_sem]) rfl ?_
      exact ⟨A', c', rfl, HR.out⟩
end Go.Proofs.Ytfdgklfkpofkeaa
