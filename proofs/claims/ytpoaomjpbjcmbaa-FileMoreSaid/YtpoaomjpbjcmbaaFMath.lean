/-
  What opening a file gives: whole records, a file cut off, a byte changed. Plain lists.
-/
import Derived.Test.YtpoaomjpbjcmbaaFileOf
namespace Go.Proofs.Ytpoaomjpbjcmbaa
open Go.RowKit
set_option linter.unusedVariables false

theorem be_snoc (k n : Nat) : be (k + 1) n = be k (n / 256) ++ [UInt8.ofNat n] := by
  unfold be
  rw [List.range_succ, List.map_append]
  congr 1
  · apply List.map_congr_left
    intro i hi
    have hi' : i < k := List.mem_range.1 hi
    rw [Nat.div_div_eq_div_mul, show 256 = 2 ^ 8 from rfl, ← Nat.pow_add]
    congr 3
    omega
  · simp
theorem nb_be (k n : Nat) (h : n < 256 ^ k) : nb (be k n) = n := by
  induction k generalizing n with
  | zero => simp at h; subst h; rfl
  | succ k ih =>
    rw [be_snoc, nb_snoc, ih _ (by rw [Nat.pow_succ] at h; omega)]
    rw [show (UInt8.ofNat n).toNat = n % 256 from rfl]; omega

theorem first1_gen (b c t : List UInt8) (hl : b.length ≤ 4000) (hc : c.length = b.length) :
    first1 (be 2 b.length ++ be 4 (adlN b) ++ c ++ t) = if adlN c = adlN b then (c, 0) else ([], 10) := by
  have e2 : (be 2 b.length ++ be 4 (adlN b) ++ c ++ t).take 2 = be 2 b.length := by
    rw [List.append_assoc, List.append_assoc, List.take_append_of_le_length (by rw [be_len]; omega), List.take_of_length_le (by rw [be_len]; omega)]
  have e4 : ((be 2 b.length ++ be 4 (adlN b) ++ c ++ t).drop 2).take 4 = be 4 (adlN b) := by
    rw [List.append_assoc, List.append_assoc, List.drop_append_of_le_length (by rw [be_len]; omega), List.drop_of_length_le (by rw [be_len]; omega), List.nil_append, List.take_append_of_le_length (by rw [be_len]; omega), List.take_of_length_le (by rw [be_len]; omega)]
  have e6 : ((be 2 b.length ++ be 4 (adlN b) ++ c ++ t).drop 6).take b.length = c := by
    rw [List.append_assoc, show (6 : Nat) = (be 2 b.length ++ be 4 (adlN b)).length by rw [List.length_append, be_len, be_len], List.drop_left, List.take_append_of_le_length (by omega), List.take_of_length_le (by omega)]
  unfold first1
  rw [e2, e4, nb_be 2 b.length (by omega), nb_be 4 (adlN b) (by have := adlN_lt b; omega), e6]
  have hlen : (be 2 b.length ++ be 4 (adlN b) ++ c ++ t).length = 6 + b.length + t.length := by simp [be_len, hc]; omega
  rw [hlen, if_neg (by omega), if_neg (by omega), if_neg (by omega)]
theorem first1_rec (b t : List UInt8) (h : b.length ≤ 4000) : first1 (recOf b ++ t) = (b, 0) := by
  have := first1_gen b b t h rfl
  rw [if_pos rfl] at this; exact this
theorem first1_cut (b : List UInt8) (m : Nat) (hl : b.length ≤ 4000) (hm : m < 6 + b.length) : first1 ((recOf b).take m) = ([], 5) := by
  have hlen : ((recOf b).take m).length = m := by rw [List.length_take, recOf_len]; omega
  unfold first1
  rw [hlen]
  by_cases h6 : m < 6
  · rw [if_pos h6]
  · rw [if_neg h6]
    have e2 : ((recOf b).take m).take 2 = be 2 b.length := by
      rw [List.take_take, Nat.min_eq_left (by omega)]
      unfold recOf
      rw [List.append_assoc, List.take_append_of_le_length (by rw [be_len]; omega), List.take_of_length_le (by rw [be_len]; omega)]
    rw [e2, nb_be 2 b.length (by omega), if_neg (by omega), if_pos (by omega)]
theorem split_one (x : List UInt8) (i : Nat) (u : UInt8) (hu : x[i]? = some u) : ∃ p q, x = p ++ u :: q ∧ p.length = i := by
  have hi := (List.getElem?_eq_some_iff.1 hu).1
  refine ⟨x.take i, x.drop (i + 1), ?_, by rw [List.length_take]; omega⟩
  have : x[i] = u := by rw [List.getElem?_eq_getElem hi] at hu; injection hu
  rw [← this, ← List.drop_eq_getElem_cons hi, List.take_append_drop]
theorem adlN_byte (x : List UInt8) (i : Nat) (u u' : UInt8) (hu : x[i]? = some u) (hne : u' ≠ u) : adlN (x.set i u') ≠ adlN x := by
  intro e
  have e2 : adlOf (x.set i u') = adlOf x := by rw [adlN_eq, adlN_eq, e]
  obtain ⟨p, q, rfl, rfl⟩ := split_one x i u hu
  rw [List.set_append_right _ _ (Nat.le_refl _), Nat.sub_self, List.set_cons_zero] at e2
  have h := ((adlOf_eq _ _).1 e2).1
  rw [sm_append, sm_append] at h
  simp only [sm] at h
  have h1 := u.toNat_lt; have h2 := u'.toNat_lt
  apply hne
  apply UInt8.toNat_inj.1
  omega
theorem opn_succ (f : Nat) (rs : List (List UInt8)) (at_ : Nat) (l : List UInt8) : opn (f + 1) rs at_ l =
    if l.length ≤ at_ then (rs, at_, 0) else
    if rs.length = 200 then (rs, at_, 8) else
    if (first1 (l.drop at_)).2 = 0 then opn f (rs ++ [(first1 (l.drop at_)).1]) (at_ + 6 + (first1 (l.drop at_)).1.length) l
    else (rs, at_, (first1 (l.drop at_)).2) := rfl
theorem opn_file (tail : List UInt8) : ∀ (rs : List (List UInt8)), (∀ b ∈ rs, b.length ≤ 4000) → ∀ (f : Nat) (acc : List (List UInt8)) (pre : List UInt8), acc.length + rs.length ≤ 200 →
    opn (f + rs.length) acc pre.length (pre ++ fFile rs ++ tail) = opn f (acc ++ rs) (pre.length + (fFile rs).length) (pre ++ fFile rs ++ tail)
  | [], _, f, acc, pre, _ => by simp [fFile]
  | b :: rs, h, f, acc, pre, hacc => by
    have hb := h b (by simp)
    have e0 : pre ++ fFile (b :: rs) ++ tail = pre ++ (recOf b ++ (fFile rs ++ tail)) := by unfold fFile; rw [List.flatMap_cons]; simp
    have e1 : pre ++ fFile (b :: rs) ++ tail = (pre ++ recOf b) ++ fFile rs ++ tail := by unfold fFile; rw [List.flatMap_cons]; simp
    have ih := opn_file tail rs (fun c hc => h c (by simp [hc])) f (acc ++ [b]) (pre ++ recOf b) (by simp at hacc ⊢; omega)
    rw [List.length_cons, show f + (rs.length + 1) = (f + rs.length) + 1 by omega]
    rw [opn_succ]
    have hlen : (pre ++ fFile (b :: rs) ++ tail).length = pre.length + (6 + b.length) + (fFile rs ++ tail).length := by rw [e0]; simp [recOf_len]; omega
    rw [if_neg (by rw [hlen]; omega), if_neg (by simp at hacc; omega)]
    have ed : (pre ++ fFile (b :: rs) ++ tail).drop pre.length = recOf b ++ (fFile rs ++ tail) := by rw [e0, List.drop_left]
    rw [ed, first1_rec b _ hb, if_pos rfl]
    simp only
    rw [e1, show pre.length + 6 + b.length = (pre ++ recOf b).length by simp [recOf_len]; omega, ih]
    congr 1
    · simp
    · unfold fFile; rw [List.flatMap_cons, List.length_append, List.length_append]; omega
theorem fFile_ge (rs : List (List UInt8)) : rs.length * 6 ≤ (fFile rs).length := by
  induction rs with
  | nil => simp [fFile]
  | cons b rs ih => unfold fFile at *; rw [List.flatMap_cons, List.length_append, recOf_len, List.length_cons, Nat.add_mul]; omega
theorem fFile_app (a b : List (List UInt8)) : fFile (a ++ b) = fFile a ++ fFile b := by unfold fFile; rw [List.flatMap_append]
theorem openF_tail (rs : List (List UInt8)) (tail : List UInt8) (h : ∀ b ∈ rs, b.length ≤ 4000) (hn : rs.length ≤ 200) :
    ∃ f, tail.length < f + 1 ∧ openF (fFile rs ++ tail) = opn (f + 1) rs (fFile rs).length (fFile rs ++ tail) := by
  have hg := fFile_ge rs
  refine ⟨(fFile rs).length + tail.length - rs.length, by omega, ?_⟩
  have := opn_file tail rs h ((fFile rs).length + tail.length - rs.length + 1) [] [] (by simpa using hn)
  simp only [List.nil_append, List.length_nil, Nat.zero_add] at this
  rw [← this]
  unfold openF
  rw [List.length_append]
  congr 1
  omega
theorem openF_file (rs : List (List UInt8)) (h : ∀ b ∈ rs, b.length ≤ 4000) (hn : rs.length ≤ 200) : openF (fFile rs) = (rs, (fFile rs).length, 0) := by
  obtain ⟨f, _, e⟩ := openF_tail rs [] h hn
  rw [List.append_nil] at e
  rw [e]
  rw [opn_succ, if_pos (Nat.le_refl _)]
theorem openF_stop (rs : List (List UInt8)) (tail : List UInt8) (h : ∀ b ∈ rs, b.length ≤ 4000) (hn : rs.length < 200) (ht : 0 < tail.length) (he : (first1 tail).2 ≠ 0) : openF (fFile rs ++ tail) = (rs, (fFile rs).length, (first1 tail).2) := by
  obtain ⟨f, _, e⟩ := openF_tail rs tail h (by omega)
  rw [e]
  rw [opn_succ, if_neg (by simp; omega), if_neg (by omega), List.drop_left, if_neg he]
theorem openF_torn (rs : List (List UInt8)) (i n : Nat) (h : ∀ b ∈ rs, b.length ≤ 4000) (hn : rs.length < 200) (hi : i ≤ rs.length) (h1 : (fFile (rs.take i)).length ≤ n) (h2 : ∀ b, rs[i]? = some b → n < (fFile (rs.take i)).length + 6 + b.length) (hnl : n ≤ (fFile rs).length) :
    openF ((fFile rs).take n) = (rs.take i, (fFile (rs.take i)).length, if (fFile (rs.take i)).length = n then 0 else 5) := by
  have hm : ∀ b ∈ rs.take i, b.length ≤ 4000 := fun b hb => h b (List.mem_of_mem_take hb)
  have e0 : fFile rs = fFile (rs.take i) ++ fFile (rs.drop i) := by rw [← fFile_app, List.take_append_drop]
  have e1 : (fFile rs).take n = fFile (rs.take i) ++ (fFile (rs.drop i)).take (n - (fFile (rs.take i)).length) := by
    rw [e0, List.take_append, List.take_of_length_le h1]
  by_cases hz : (fFile (rs.take i)).length = n
  · rw [if_pos hz, e1, show n - (fFile (rs.take i)).length = 0 by omega, List.take_zero, List.append_nil]
    exact openF_file _ hm (by rw [List.length_take]; omega)
  · rw [if_neg hz]
    have hlt : i < rs.length := by
      rcases Nat.lt_or_ge i rs.length with h3 | h3
      · exact h3
      · rw [List.take_of_length_le h3] at h1 hz; omega
    have hb : rs[i]? = some rs[i] := List.getElem?_eq_getElem hlt
    have hbn := h2 _ hb
    have hbl := h _ (List.getElem_mem hlt)
    have e2 : (fFile (rs.drop i)).take (n - (fFile (rs.take i)).length) = (recOf rs[i]).take (n - (fFile (rs.take i)).length) := by
      rw [List.drop_eq_getElem_cons hlt]
      unfold fFile
      rw [List.flatMap_cons, List.take_append_of_le_length (by rw [recOf_len]; unfold fFile at hbn; omega)]
    have h5 := first1_cut rs[i] (n - (fFile (rs.take i)).length) hbl (by omega)
    rw [e1, e2, openF_stop _ _ hm (by rw [List.length_take]; omega) (by rw [List.length_take, recOf_len]; omega) (by rw [h5]; decide), h5]
theorem openF_sees (rs : List (List UInt8)) (i j : Nat) (b : List UInt8) (u u' : UInt8) (h : ∀ b ∈ rs, b.length ≤ 4000) (hn : rs.length < 200) (hb : rs[i]? = some b) (hu : b[j]? = some u) (hne : u' ≠ u) :
    openF ((fFile rs).set ((fFile (rs.take i)).length + 6 + j) u') = (rs.take i, (fFile (rs.take i)).length, 10) := by
  have hm : ∀ b ∈ rs.take i, b.length ≤ 4000 := fun b hb => h b (List.mem_of_mem_take hb)
  have hi := (List.getElem?_eq_some_iff.1 hb).1
  have hbe : rs[i] = b := by rw [List.getElem?_eq_getElem hi] at hb; injection hb
  have hbl : b.length ≤ 4000 := by rw [← hbe]; exact h _ (List.getElem_mem hi)
  have hj := (List.getElem?_eq_some_iff.1 hu).1
  have e0 : fFile rs = fFile (rs.take i) ++ (be 2 b.length ++ be 4 (adlN b) ++ (b ++ fFile (rs.drop (i + 1)))) := by
    conv => lhs; rw [← List.take_append_drop i rs, fFile_app, List.drop_eq_getElem_cons hi, hbe]
    unfold fFile recOf
    rw [List.flatMap_cons]; simp only [List.append_assoc]
  have e1 : (fFile rs).set ((fFile (rs.take i)).length + 6 + j) u' = fFile (rs.take i) ++ (be 2 b.length ++ be 4 (adlN b) ++ b.set j u' ++ fFile (rs.drop (i + 1))) := by
    rw [e0, List.set_append_right _ _ (by omega), List.set_append_right _ _ (by simp [be_len]; omega), List.set_append_left _ _ (by simp [be_len]; omega)]
    rw [show (fFile (List.take i rs)).length + 6 + j - (fFile (List.take i rs)).length - (be 2 b.length ++ be 4 (adlN b)).length = j by simp [be_len]; omega]
    simp only [List.append_assoc]
  have h10 := first1_gen b (b.set j u') (fFile (rs.drop (i + 1))) hbl (by simp)
  rw [if_neg (adlN_byte b j u u' hu hne)] at h10
  rw [e1, openF_stop _ _ hm (by rw [List.length_take]; omega) (by simp [be_len]; omega) (by rw [h10]; decide), h10]
end Go.Proofs.Ytpoaomjpbjcmbaa
