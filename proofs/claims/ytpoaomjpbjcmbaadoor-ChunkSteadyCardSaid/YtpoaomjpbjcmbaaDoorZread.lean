/-
  Reading codes of numbers: the plain law.
-/
import Derived.Test.YtpoaomjpbjcmbaaDoorEye
import Derived.Test.YtpoaomjpbjcmbaaDoorZig
namespace Go.Proofs.YtpoaomjpbjcmbaaDoor
open Go.RowKit
set_option linter.unusedVariables false

/-- the class that the head tells, and the head's length -/
def zhead : List Bool → Option (Nat × Nat)
  | false :: _ => some (0, 1)
  | true :: false :: _ => some (1, 2)
  | true :: true :: false :: _ => some (2, 3)
  | true :: true :: true :: false :: _ => some (3, 4)
  | true :: true :: true :: true :: _ => some (4, 4)
  | _ => none
def zwid : Nat → Nat
  | 0 => 0
  | 1 => 6
  | 2 => 12
  | 3 => 24
  | _ => 59
def zidx (x : Nat) : Nat := if x = 0 then 0 else if x < 64 then 1 else if x < 4096 then 2 else if x < 16777216 then 3 else 4
/-- value, fault, bits taken -/
def zread (bs : List Bool) : Int × Nat × Nat :=
  match zhead bs with
  | none => (0, 5, 0)
  | some (k, h) => if bs.length < h + zwid k then (0, 5, 0) else if zidx (numOf ((bs.drop h).take (zwid k))) = k then (zunf (numOf ((bs.drop h).take (zwid k)) : Int), 0, h + zwid k) else (0, 4, 0)
def zhbits : Nat → List Bool
  | 0 => [false]
  | 1 => [true, false]
  | 2 => [true, true, false]
  | 3 => [true, true, true, false]
  | _ => [true, true, true, true]
theorem zcls_idx (x : Nat) : (zcls x).2.2 = zwid (zidx x) ∧ bitsOf (zcls x).2.1 (zcls x).1 = zhbits (zidx x) ∧ zidx x ≤ 4 := by
  unfold zcls zidx
  by_cases h0 : x = 0
  · simp only [h0, if_true]; decide
  · rw [if_neg h0, if_neg h0]
    by_cases h1 : x < 64
    · simp only [h1, if_true]; decide
    · rw [if_neg h1, if_neg h1]
      by_cases h2 : x < 4096
      · simp only [h2, if_true]; decide
      · rw [if_neg h2, if_neg h2]
        by_cases h3 : x < 16777216
        · simp only [h3, if_true]; decide
        · simp only [h3, if_false]; decide
theorem zcode_eq (n : Int) : zcode n = zhbits (zidx (zfold n).toNat) ++ bitsOf (zwid (zidx (zfold n).toNat)) (zfold n).toNat := by
  obtain ⟨h1, h2, _⟩ := zcls_idx (zfold n).toNat
  unfold zcode; rw [h1, h2]
theorem zidx_lt (x : Nat) (hx : x < 576460752303423488) : x < 2 ^ zwid (zidx x) := by
  unfold zidx
  by_cases h0 : x = 0
  · rw [if_pos h0]; subst h0; decide
  · rw [if_neg h0]
    by_cases h1 : x < 64
    · rw [if_pos h1]; show x < 2 ^ 6; omega
    · rw [if_neg h1]
      by_cases h2 : x < 4096
      · rw [if_pos h2]; show x < 2 ^ 12; omega
      · rw [if_neg h2]
        by_cases h3 : x < 16777216
        · rw [if_pos h3]; show x < 2 ^ 24; omega
        · rw [if_neg h3]; show x < 2 ^ 59; omega
theorem zhbits_len (k : Nat) (hk : k ≤ 4) : (zhbits k).length = if k = 4 then 4 else k + 1 := by
  match k, hk with
  | 0, _ => rfl
  | 1, _ => rfl
  | 2, _ => rfl
  | 3, _ => rfl
  | 4, _ => rfl
theorem zhead_some (k : Nat) (hk : k ≤ 4) (r : List Bool) : zhead (zhbits k ++ r) = some (k, (zhbits k).length) := by
  match k, hk with
  | 0, _ => rfl
  | 1, _ => rfl
  | 2, _ => rfl
  | 3, _ => rfl
  | 4, _ => rfl
theorem zhead_inv (bs : List Bool) (k h : Nat) (e : zhead bs = some (k, h)) : k ≤ 4 ∧ h = (zhbits k).length ∧ ∃ r, bs = zhbits k ++ r := by
  unfold zhead at e
  split at e <;> simp at e
  all_goals
    obtain ⟨rfl, rfl⟩ := e
    exact ⟨by decide, rfl, _, rfl⟩
def ZSm (n : Int) : Prop := -288230376151711744 ≤ n ∧ n < 288230376151711744
theorem zread_code (n : Int) (hn : ZSm n) (r : List Bool) : zread (zcode n ++ r) = (n, 0, (zcode n).length) := by
  obtain ⟨b0, b1⟩ := zfold_bd n hn.1 hn.2
  have hlt := zidx_lt (zfold n).toNat (by omega)
  have hk := (zcls_idx (zfold n).toNat).2.2
  have hz : ((zfold n).toNat : Int) = zfold n := by omega
  rw [zcode_eq]
  obtain ⟨x, hx⟩ : ∃ x, (zfold n).toNat = x := ⟨_, rfl⟩
  rw [hx] at hlt hk hz ⊢
  unfold zread
  rw [List.append_assoc, zhead_some _ hk]
  simp only
  have e1 : (((zhbits (zidx x)) ++ (bitsOf (zwid (zidx x)) x ++ r)).drop (zhbits (zidx x)).length).take (zwid (zidx x)) = bitsOf (zwid (zidx x)) x := by
    rw [List.drop_left' rfl, List.take_left' (bitsOf_len _ _)]
  rw [if_neg (by simp only [List.length_append, bitsOf_len]; omega), e1, numOf_bitsOf _ _ hlt, if_pos rfl, hz, zunf_fold, List.length_append, bitsOf_len]
/-- what was read is a code -/
theorem bitsOf_numOf : ∀ bs : List Bool, bitsOf bs.length (numOf bs) = bs := by
  have H : ∀ n, ∀ bs : List Bool, bs.length = n → bitsOf n (numOf bs) = bs := by
    intro n
    induction n with
    | zero => intro bs h; rw [List.eq_nil_of_length_eq_zero h]; rfl
    | succ n ih =>
      intro bs h
      obtain ⟨cs, c, rfl⟩ : ∃ cs c, bs = cs ++ [c] := ⟨bs.take n, bs[n], by rw [List.take_append_getElem, List.take_of_length_le (by omega)]⟩
      have := ih cs (by simp at h; omega)
      rw [numOf_snoc, bitsOf_snoc]
      have e1 : (2 * numOf cs + c.toNat) / 2 = numOf cs := by cases c <;> simp <;> omega
      have e2 : (2 * numOf cs + c.toNat).testBit 0 = c := by rw [Nat.testBit_zero]; cases c <;> simp <;> omega
      rw [e1, e2, this]
  exact fun bs => H _ bs rfl
theorem zread_inv (bs : List Bool) (v : Int) (t : Nat) (e : zread bs = (v, 0, t)) : ZSm v ∧ t = (zcode v).length ∧ bs = zcode v ++ bs.drop t ∧ 1 ≤ t ∧ t ≤ bs.length := by
  unfold zread at e
  split at e
  · simp at e
  · rename_i k h hz
    obtain ⟨hk, rfl, r, rfl⟩ := zhead_inv bs k h hz
    rw [List.drop_left' rfl] at e
    split at e
    · simp at e
    · rename_i hlen
      split at e
      · rename_i hidx
        simp only [Prod.mk.injEq, true_and] at e
        obtain ⟨hv, ht⟩ := e
        rw [List.length_append] at hlen
        have hrl : (r.take (zwid k)).length = zwid k := by rw [List.length_take]; omega
        have hb := bitsOf_numOf (r.take (zwid k))
        have hl := numOf_lt (r.take (zwid k))
        rw [hrl] at hb hl
        generalize numOf (r.take (zwid k)) = x at *
        have hx59 : x < 576460752303423488 := Nat.lt_of_lt_of_le hl (Nat.le_trans (Nat.pow_le_pow_right (by decide) (show zwid k ≤ 59 by unfold zwid; split <;> omega)) (by decide))
        have hzv : zfold v = (x : Int) := by rw [← hv]; exact zfold_unf _ (by omega)
        have hzn : (zfold v).toNat = x := by omega
        have hc : zcode v = zhbits k ++ r.take (zwid k) := by rw [zcode_eq, hzn, hidx, hb]
        have hcl : (zcode v).length = t := by rw [hc, List.length_append, hrl, ht]
        have hsm := zunf_bd (x : Int) (by omega) (by omega)
        rw [hv] at hsm
        refine ⟨hsm, hcl.symm, ?_, ?_, by rw [List.length_append]; omega⟩
        · rw [hc, ← ht, ← List.drop_drop, List.drop_left' rfl, List.append_assoc, List.take_append_drop]
        · rw [← ht, zhbits_len k hk]; split <;> omega
      · simp at e
/-- a code that is cut off -/
theorem zread_cut (n : Int) (hn : ZSm n) (bs r : List Bool) (h : zcode n = bs ++ r) (hr : r ≠ []) : zread bs = (0, 5, 0) := by
  unfold zread
  cases hz : zhead bs with
  | none => rfl
  | some q =>
    obtain ⟨k, hh⟩ := q
    obtain ⟨hk, rfl, s, rfl⟩ := zhead_inv bs k hh hz
    have e1 := zhead_some k hk (s ++ r)
    rw [← List.append_assoc, ← h, zcode_eq, zhead_some _ (zcls_idx _).2.2] at e1
    injection e1 with e1
    injection e1 with e1 e2
    have hl := congrArg List.length h
    rw [zcode_eq, List.length_append, bitsOf_len, List.length_append, e1] at hl
    have hr1 : 0 < r.length := List.length_pos_iff.2 hr
    simp only
    rw [if_pos (by omega)]
/-! ### lists of codes -/
def zcodes' (l : List Int) : List Bool := l.flatMap zcode
theorem zcode_pos (n : Int) : 1 ≤ (zcode n).length := by
  have hk := (zcls_idx (zfold n).toNat).2.2
  rw [zcode_eq, List.length_append, zhbits_len _ hk]
  split <;> omega
/-- a state of the reading of numbers: k of them are read at place p -/
theorem zread_at (l : List Int) (hl : ∀ x ∈ l, ZSm x) (bs rest : List Bool) (h : bs = zcodes' l ++ rest) (k : Nat) (x : Int) (hx : l[k]? = some x) :
    zread (bs.drop (zcodes' (l.take k)).length) = (x, 0, (zcode x).length) ∧ (zcodes' (l.take (k + 1))).length = (zcodes' (l.take k)).length + (zcode x).length := by
  have e1 : l = l.take k ++ x :: l.drop (k + 1) := by
    have h1 := List.take_append_drop (k + 1) l
    rw [take_next hx, List.append_assoc] at h1
    exact h1.symm
  have e2 : zcodes' l = zcodes' (l.take k) ++ (zcode x ++ zcodes' (l.drop (k + 1))) := by
    conv => lhs; rw [e1]
    unfold zcodes'; rw [List.flatMap_append, List.flatMap_cons]
  refine ⟨?_, by rw [take_next hx]; unfold zcodes'; rw [List.flatMap_append, List.length_append]; simp⟩
  rw [h, e2, List.append_assoc, List.drop_left' rfl, List.append_assoc]
  exact zread_code x (hl x (List.mem_of_getElem? hx)) _
/-- of cut codes: each number is read, or the reading ends too early -/
theorem zread_at_cut (l : List Int) (hl : ∀ x ∈ l, ZSm x) (bs r : List Bool) (hr : r ≠ []) (h : zcodes' l = bs ++ r) (k : Nat) (hk : k ≤ l.length) (hp : (zcodes' (l.take k)).length ≤ bs.length) :
    k < l.length ∧ ∀ x, l[k]? = some x → (zread (bs.drop (zcodes' (l.take k)).length) = (x, 0, (zcode x).length) ∧ (zcodes' (l.take (k + 1))).length = (zcodes' (l.take k)).length + (zcode x).length ∧ (zcodes' (l.take (k + 1))).length ≤ bs.length) ∨ zread (bs.drop (zcodes' (l.take k)).length) = (0, 5, 0) := by
  have e0 : bs = zcodes' (l.take k) ++ bs.drop (zcodes' (l.take k)).length ∧ zcodes' (l.drop k) = bs.drop (zcodes' (l.take k)).length ++ r := by
    have e1 : zcodes' l = zcodes' (l.take k) ++ zcodes' (l.drop k) := by
      conv => lhs; rw [← List.take_append_drop k l]
      unfold zcodes'; rw [List.flatMap_append]
    have e2 := h
    rw [e1] at e2
    have e3 := congrArg (List.drop (zcodes' (l.take k)).length) e2
    rw [List.drop_left' rfl, List.drop_append_of_le_length hp] at e3
    have e4 := congrArg (List.take (zcodes' (l.take k)).length) e2
    rw [List.take_left' rfl, List.take_append_of_le_length hp] at e4
    refine ⟨?_, e3⟩
    conv => lhs; rw [← List.take_append_drop (zcodes' (l.take k)).length bs]
    rw [← e4]
  obtain ⟨e1, e2⟩ := e0
  have hkl : k < l.length := by
    rcases Nat.lt_or_ge k l.length with h1 | h1
    · exact h1
    · rw [List.drop_eq_nil_of_le h1] at e2
      have : ([] : List Bool) = _ := e2
      have := congrArg List.length this
      have hr1 : 0 < r.length := List.length_pos_iff.2 hr
      simp at this; omega
  refine ⟨hkl, fun x hx => ?_⟩
  have e3 : l.drop k = x :: l.drop (k + 1) := by
    rw [List.drop_eq_getElem_cons hkl]
    rw [List.getElem?_eq_getElem hkl] at hx; injection hx with hx; rw [hx]
  have e4 : zcode x ++ zcodes' (l.drop (k + 1)) = bs.drop (zcodes' (l.take k)).length ++ r := by
    rw [← e2, e3]; rfl
  have hsm := hl x (List.mem_of_getElem? hx)
  have hsum : (zcodes' (l.take (k + 1))).length = (zcodes' (l.take k)).length + (zcode x).length := by rw [take_next hx]; unfold zcodes'; rw [List.flatMap_append, List.length_append]; simp
  have hbl := congrArg List.length e1
  rw [List.length_append] at hbl
  generalize bs.drop (zcodes' (l.take k)).length = d at *
  rcases Nat.lt_or_ge d.length (zcode x).length with h1 | h1
  · right
    have e5 := congrArg (List.take (zcode x).length) e4
    rw [List.take_left' rfl, List.take_append, List.take_of_length_le (by omega)] at e5
    refine zread_cut x hsm d (r.take ((zcode x).length - d.length)) e5 fun e6 => ?_
    rw [e6, List.append_nil] at e5
    rw [e5] at h1; omega
  · left
    have e5 := congrArg (List.take (zcode x).length) e4
    rw [List.take_left' rfl, List.take_append_of_le_length h1] at e5
    have e6 : d = zcode x ++ d.drop (zcode x).length := by
      conv => lhs; rw [← List.take_append_drop (zcode x).length d]
      rw [← e5]
    refine ⟨?_, hsum, by omega⟩
    rw [e6]
    exact zread_code x hsm _
end Go.Proofs.YtpoaomjpbjcmbaaDoor
