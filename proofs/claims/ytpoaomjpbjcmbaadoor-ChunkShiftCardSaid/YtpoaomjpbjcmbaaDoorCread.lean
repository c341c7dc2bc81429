/-
  Reading chunks: the plain law.
-/
import Derived.Test.YtpoaomjpbjcmbaaDoorZread
import Derived.Test.YtpoaomjpbjcmbaaDoorChunk
namespace Go.Proofs.YtpoaomjpbjcmbaaDoor
open Go.RowKit
set_option linter.unusedVariables false

def CkSt.sample (s : CkSt) (a b : Int) : Int × Int := if s.count = 0 then (a, b) else (s.t + s.step + a, s.v + b)
theorem CkSt.sample_codes (s : CkSt) (x : Int × Int) : s.sample (s.codes x).1 (s.codes x).2 = x := by
  unfold CkSt.sample CkSt.codes
  by_cases h : s.count = 0
  · rw [if_pos h, if_pos h]
  · rw [if_neg h, if_neg h]
    exact Prod.ext (by simp only; omega) (by simp only; omega)
theorem CkSt.codes_sample (s : CkSt) (a b : Int) : s.codes (s.sample a b) = (a, b) := by
  unfold CkSt.sample CkSt.codes
  by_cases h : s.count = 0
  · rw [if_pos h, if_pos h]
  · rw [if_neg h, if_neg h]
    exact Prod.ext (by simp only; omega) (by simp only; omega)
/-- the sample may follow -/
def CkSt.may (s : CkSt) (x : Int × Int) : Prop := SmpOk x ∧ (0 < s.count → s.t < x.1)
instance (s : CkSt) (x : Int × Int) : Decidable (s.may x) := by unfold CkSt.may SmpOk; infer_instance
def cgo : Nat → CkSt → List Bool → List (Int × Int) × Nat × List Bool
  | 0, _, bs => ([], 0, bs)
  | c + 1, s, bs =>
    let a := zread bs
    if a.2.1 = 0 then
      let b := zread (bs.drop a.2.2)
      if b.2.1 = 0 then
        if s.may (s.sample a.1 b.1) then
          let r := cgo c (s.next (s.sample a.1 b.1)) (bs.drop (a.2.2 + b.2.2))
          if r.2.1 = 0 then (s.sample a.1 b.1 :: r.1, 0, r.2.2) else ([], r.2.1, [])
        else ([], 4, [])
      else ([], b.2.1, [])
    else ([], a.2.1, [])
def cenc : CkSt → List (Int × Int) → List Bool
  | _, [] => []
  | s, x :: l => zcode (s.codes x).1 ++ (zcode (s.codes x).2 ++ cenc (s.next x) l)
def Good : CkSt → List (Int × Int) → Prop
  | _, [] => True
  | s, x :: l => s.may x ∧ Good (s.next x) l
theorem ckStep_enc : ∀ (l : List (Int × Int)) (s : CkSt) (bs : List Bool), (l.foldl ckStep (s, bs)).2 = bs ++ cenc s l
  | [], s, bs => by simp [cenc]
  | x :: l, s, bs => by
    rw [List.foldl_cons]
    show (l.foldl ckStep (s.next x, (bs ++ zcode (s.codes x).1) ++ zcode (s.codes x).2)).2 = _
    rw [ckStep_enc l]
    simp [cenc]
theorem ckGo_enc (l : List (Int × Int)) : (ckGo l).2 = bitsOf 8 l.length ++ cenc ⟨0, 0, 0, 0⟩ l := ckStep_enc l _ _
theorem CkSt.codes_small (s : CkSt) (x : Int × Int) (hs : s.ok) (h : s.may x) : ZSm (s.codes x).1 ∧ ZSm (s.codes x).2 := by
  obtain ⟨⟨d0, d1⟩, d2, d3⟩ := s.codes_bd x hs h.1 h.2
  exact ⟨⟨d0, d1⟩, d2, d3⟩
theorem cgo_inv : ∀ (c : Nat) (s : CkSt) (bs : List Bool) (l : List (Int × Int)) (r : List Bool), cgo c s bs = (l, 0, r) → l.length = c ∧ bs = cenc s l ++ r ∧ Good s l
  | 0, s, bs, l, r, h => by
    simp only [cgo, Prod.mk.injEq, true_and] at h
    obtain ⟨rfl, rfl⟩ := h
    exact ⟨rfl, rfl, trivial⟩
  | c + 1, s, bs, l, r, h => by
    unfold cgo at h
    simp only at h
    split at h
    · rename_i h1
      split at h
      · rename_i h2
        split at h
        · rename_i h3
          split at h
          · rename_i h4
            simp only [Prod.mk.injEq, true_and] at h
            obtain ⟨rfl, rfl⟩ := h
            obtain ⟨_, e1, e2, _, e3⟩ := zread_inv bs _ _ (show zread bs = ((zread bs).1, 0, (zread bs).2.2) by rw [← h1])
            generalize zread bs = a at *
            obtain ⟨_, f1, f2, _, f3⟩ := zread_inv (bs.drop a.2.2) _ _ (show zread (bs.drop a.2.2) = ((zread (bs.drop a.2.2)).1, 0, (zread (bs.drop a.2.2)).2.2) by rw [← h2])
            generalize zread (bs.drop a.2.2) = b at *
            obtain ⟨i1, i2, i3⟩ := cgo_inv c _ _ _ _ (show cgo c (s.next (s.sample a.1 b.1)) (bs.drop (a.2.2 + b.2.2)) = ((cgo c (s.next (s.sample a.1 b.1)) (bs.drop (a.2.2 + b.2.2))).1, 0, (cgo c (s.next (s.sample a.1 b.1)) (bs.drop (a.2.2 + b.2.2))).2.2) by rw [← h4])
            refine ⟨by rw [List.length_cons, i1], ?_, h3, i3⟩
            unfold cenc
            rw [s.codes_sample, List.append_assoc, List.append_assoc, ← i2, ← List.drop_drop, ← f2, ← e2]
          · rename_i h4
            simp only [Prod.mk.injEq] at h; exact absurd h.2.1 h4
        · simp at h
      · rename_i h2
        simp only [Prod.mk.injEq] at h; exact absurd h.2.1 h2
    · rename_i h1
      simp only [Prod.mk.injEq] at h; exact absurd h.2.1 h1
theorem zread_err (bs : List Bool) : (zread bs).2.1 = 0 ∨ (zread bs).2.1 = 4 ∨ (zread bs).2.1 = 5 := by
  unfold zread
  split
  · exact .inr (.inr rfl)
  · split
    · exact .inr (.inr rfl)
    · split
      · exact .inl rfl
      · exact .inr (.inl rfl)
theorem cgo_err : ∀ (c : Nat) (s : CkSt) (bs : List Bool), ((cgo c s bs).2.1 = 0 ∨ (cgo c s bs).2.1 = 4 ∨ (cgo c s bs).2.1 = 5)
  | 0, s, bs => .inl rfl
  | c + 1, s, bs => by
    unfold cgo
    simp only
    split
    · split
      · split
        · split
          · exact .inl rfl
          · exact cgo_err c _ _
        · exact .inr (.inl rfl)
      · exact zread_err _
    · exact zread_err _
theorem cgo_back : ∀ (l : List (Int × Int)) (s : CkSt) (r : List Bool), s.ok → s.count + l.length ≤ 1000 → Good s l → cgo l.length s (cenc s l ++ r) = (l, 0, r)
  | [], s, r, _, _, _ => rfl
  | x :: l, s, r, hs, hc, ⟨hm, hg⟩ => by
    rw [List.length_cons] at hc
    have hn := s.next_ok x hs hm.1 (by omega) hm.2
    have ih := cgo_back l (s.next x) r hn (by show s.count + 1 + l.length ≤ 1000; omega) hg
    obtain ⟨g1, g2⟩ := s.codes_small x hs hm
    have e1 := zread_code _ g1 ((zcode (s.codes x).2 ++ cenc (s.next x) l) ++ r)
    have e2 := zread_code _ g2 (cenc (s.next x) l ++ r)
    rw [List.length_cons]
    unfold cgo
    simp only
    have eb : cenc s (x :: l) ++ r = zcode (s.codes x).1 ++ ((zcode (s.codes x).2 ++ cenc (s.next x) l) ++ r) := by show (zcode (s.codes x).1 ++ (zcode (s.codes x).2 ++ cenc (s.next x) l)) ++ r = _; rw [List.append_assoc]
    rw [eb, e1]
    simp only [if_true]
    rw [List.drop_left' rfl, List.append_assoc, e2]
    simp only [if_true]
    rw [s.sample_codes, if_pos hm, ← List.drop_drop, List.drop_left' rfl, List.drop_left' rfl, ih]
    simp
theorem cut_split (a b c r : List Bool) (h : a ++ b = c ++ r) : (∃ d, c = a ++ d ∧ b = d ++ r) ∨ (∃ d, d ≠ [] ∧ a = c ++ d) := by
  rcases Nat.lt_or_ge c.length a.length with h1 | h1
  · right
    refine ⟨a.drop c.length, fun e => ?_, ?_⟩
    · have := congrArg List.length e; rw [List.length_drop] at this; simp at this; omega
    · have e5 := congrArg (List.take c.length) h
      rw [List.take_left' rfl, List.take_append_of_le_length (by omega)] at e5
      conv => lhs; rw [← List.take_append_drop c.length a]
      rw [e5]
  · left
    have e5 := congrArg (List.take a.length) h
    rw [List.take_left' rfl, List.take_append_of_le_length h1] at e5
    have e6 := congrArg (List.drop a.length) h
    rw [List.drop_left' rfl, List.drop_append_of_le_length h1] at e6
    refine ⟨c.drop a.length, ?_, e6⟩
    conv => lhs; rw [← List.take_append_drop a.length c]
    rw [← e5]
theorem cgo_cut : ∀ (l : List (Int × Int)) (s : CkSt) (bs r : List Bool), s.ok → s.count + l.length ≤ 1000 → Good s l → r ≠ [] → cenc s l = bs ++ r → cgo l.length s bs = ([], 5, [])
  | [], s, bs, r, _, _, _, hr, h => by
    have := congrArg List.length h
    have hr1 : 0 < r.length := List.length_pos_iff.2 hr
    simp [cenc] at this; omega
  | x :: l, s, bs, r, hs, hc, ⟨hm, hg⟩, hr, h => by
    rw [List.length_cons] at hc
    have hn := s.next_ok x hs hm.1 (by omega) hm.2
    have ih := cgo_cut l (s.next x)
    obtain ⟨g1, g2⟩ := s.codes_small x hs hm
    unfold cenc at h
    rw [List.length_cons]
    unfold cgo
    simp only
    rcases cut_split _ _ _ _ h with ⟨d, rfl, h2⟩ | ⟨d, hd, h2⟩
    · rw [zread_code _ g1 d]
      simp only [if_true]
      rw [List.drop_left' rfl]
      rcases cut_split _ _ _ _ h2 with ⟨d2, rfl, h3⟩ | ⟨d2, hd2, h3⟩
      · rw [zread_code _ g2 d2]
        simp only [if_true]
        rw [s.sample_codes, if_pos hm, ← List.drop_drop, List.drop_left' rfl, List.drop_left' rfl, ih d2 r hn (by show s.count + 1 + l.length ≤ 1000; omega) hg hr h3]
        simp
      · rw [zread_cut _ g2 d d2 h3 hd2]
        simp
    · rw [zread_cut _ g1 bs d h2 hd]
      simp
/-- the whole reading -/
theorem unp_append' (a b : List UInt8) : unp (a ++ b) = unp a ++ unp b := by simp [unp]
def cend (r : List (Int × Int) × Nat × List Bool) : List (Int × Int) × Nat :=
  if r.2.1 = 0 then (if numOf (r.2.2.take (r.2.2.length % 8)) = 0 ∧ r.2.2.length < 8 then (r.1, 0) else ([], 4)) else ([], r.2.1)
def cdec (bs : List Bool) : List (Int × Int) × Nat :=
  if bs.length < 8 then ([], 5) else if 120 < numOf (bs.take 8) then ([], 4) else cend (cgo (numOf (bs.take 8)) ⟨0, 0, 0, 0⟩ (bs.drop 8))
theorem numOf_zeros (n : Nat) : numOf (List.replicate n false) = 0 := by
  induction n with
  | zero => rfl
  | succ n ih => rw [List.replicate_succ', numOf_snoc, ih]; rfl
theorem numOf_zero (bs : List Bool) (h : numOf bs = 0) : bs = List.replicate bs.length false := by
  have H : ∀ n, ∀ bs : List Bool, bs.length = n → numOf bs = 0 → bs = List.replicate n false := by
    intro n
    induction n with
    | zero => intro bs h _; rw [List.eq_nil_of_length_eq_zero h]; rfl
    | succ n ih =>
      intro bs h h2
      obtain ⟨cs, c, rfl⟩ : ∃ cs c, bs = cs ++ [c] := ⟨bs.take n, bs[n], by rw [List.take_append_getElem, List.take_of_length_le (by omega)]⟩
      rw [numOf_snoc] at h2
      have h3 := ih cs (by simp at h; omega) (by omega)
      have hc : c = false := by cases c <;> simp at h2 ⊢
      rw [List.replicate_succ', ← h3, hc]
  exact H _ bs rfl h
theorem good_of : ∀ (l : List (Int × Int)) (s : CkSt), (∀ x ∈ l, SmpOk x) → (∀ k x y, l[k]? = some x → l[k + 1]? = some y → x.1 < y.1) → (∀ x, l[0]? = some x → 0 < s.count → s.t < x.1) → Good s l
  | [], _, _, _, _ => trivial
  | x :: l, s, h1, h2, h3 => by
    refine ⟨⟨h1 x (by simp), fun h0 => h3 x rfl h0⟩, good_of l _ (fun y hy => h1 y (by simp [hy])) (fun k y z hy hz => h2 (k + 1) y z (by simpa using hy) (by simpa using hz)) fun y hy _ => ?_⟩
    show x.1 < y.1
    exact h2 0 x y rfl (by simpa using hy)
theorem of_good : ∀ (l : List (Int × Int)) (s : CkSt), Good s l → SmpsOk l ∧ ∀ x, l[0]? = some x → 0 < s.count → s.t < x.1
  | [], _, _ => ⟨⟨by simp, by simp⟩, by simp⟩
  | x :: l, s, ⟨hm, hg⟩ => by
    obtain ⟨⟨i1, i2⟩, i3⟩ := of_good l _ hg
    refine ⟨⟨fun y hy => ?_, fun k y z hy hz => ?_⟩, fun y hy h0 => ?_⟩
    · rcases List.mem_cons.1 hy with rfl | h
      · exact hm.1
      · exact i1 y h
    · match k with
      | 0 =>
        simp at hy hz; subst hy
        exact i3 z (by simpa using hz) (Nat.succ_pos _)
      | k + 1 => exact i2 k y z (by simpa using hy) (by simpa using hz)
    · simp at hy; subst hy; exact hm.2 h0
theorem unp_inj : ∀ a b : List UInt8, unp a = unp b → a = b
  | [], [], _ => rfl
  | [], y :: b, h => by have := congrArg List.length h; rw [unp_len, unp_len] at this; simp at this
  | x :: a, [], h => by have := congrArg List.length h; rw [unp_len, unp_len] at this; simp at this
  | x :: a, y :: b, h => by
    have h1 : bitsOf 8 x.toNat ++ unp a = bitsOf 8 y.toNat ++ unp b := h
    have e1 := congrArg (List.take 8) h1
    rw [List.take_left' (bitsOf_len _ _), List.take_left' (bitsOf_len _ _)] at e1
    have e2 := congrArg (List.drop 8) h1
    rw [List.drop_left' (bitsOf_len _ _), List.drop_left' (bitsOf_len _ _)] at e2
    have e3 := congrArg numOf e1
    rw [numOf_bitsOf _ _ x.toNat_lt, numOf_bitsOf _ _ y.toNat_lt] at e3
    rw [UInt8.toNat_inj.1 e3, unp_inj a b e2]
theorem cdec_back (l : List (Int × Int)) (hl : SmpsOk l) (hn : l.length ≤ 120) : cdec (unp (pack (ckGo l).2)) = (l, 0) := by
  have hg := good_of l ⟨0, 0, 0, 0⟩ hl.1 hl.2 (fun _ _ h => absurd h (by decide))
  have hpl := pack_len (ckGo l).2
  rw [unp_pack]
  rw [ckGo_enc] at *
  obtain ⟨z, hz⟩ : ∃ z, (pack (bitsOf 8 l.length ++ cenc ⟨0, 0, 0, 0⟩ l)).length * 8 - (bitsOf 8 l.length ++ cenc ⟨0, 0, 0, 0⟩ l).length = z := ⟨_, rfl⟩
  rw [hz]
  have hz8 : z < 8 := by omega
  rw [List.append_assoc]
  unfold cdec
  rw [if_neg (by rw [List.length_append, bitsOf_len]; omega), List.take_left' (bitsOf_len _ _), List.drop_left' (bitsOf_len _ _), numOf_bitsOf _ _ (by omega), if_neg (by omega), cgo_back l _ _ CkSt.ok0 (by show 0 + l.length ≤ 1000; omega) hg]
  unfold cend
  simp only [if_true]
  rw [List.length_replicate, List.take_replicate, numOf_zeros, if_pos ⟨rfl, hz8⟩]
theorem cdec_fix (b : List UInt8) (l : List (Int × Int)) (h : cdec (unp b) = (l, 0)) : SmpsOk l ∧ l.length ≤ 120 ∧ pack (ckGo l).2 = b := by
  unfold cdec at h
  split at h
  · simp at h
  · rename_i h8
    split at h
    · simp at h
    · rename_i h120
      unfold cend at h
      split at h
      · rename_i h0
        split at h
        · rename_i hz
          simp only [Prod.mk.injEq, and_true] at h
          obtain ⟨i1, i2, i3⟩ := cgo_inv _ _ _ l _ (show cgo (numOf ((unp b).take 8)) ⟨0, 0, 0, 0⟩ ((unp b).drop 8) = (l, 0, (cgo (numOf ((unp b).take 8)) ⟨0, 0, 0, 0⟩ ((unp b).drop 8)).2.2) from Prod.ext h (Prod.ext h0 rfl))
          generalize (cgo (numOf ((unp b).take 8)) ⟨0, 0, 0, 0⟩ ((unp b).drop 8)).2.2 = r at *
          refine ⟨(of_good l _ i3).1, by omega, ?_⟩
          have hz1 := hz.1
          rw [Nat.mod_eq_of_lt hz.2, List.take_length] at hz1
          have hr := numOf_zero r hz1
          have e8 : bitsOf 8 l.length = (unp b).take 8 := by
            have := bitsOf_numOf ((unp b).take 8)
            rw [List.length_take, Nat.min_eq_left (by omega), ← i1] at this
            exact this
          have eu : unp b = (ckGo l).2 ++ r := by
            rw [ckGo_enc, e8, List.append_assoc, ← i2, List.take_append_drop]
          apply unp_inj
          rw [unp_pack, eu]
          congr 1
          have hl1 := congrArg List.length eu
          rw [unp_len, List.length_append] at hl1
          have hpl := pack_len (ckGo l).2
          rw [hr, show (pack (ckGo l).2).length * 8 - (ckGo l).2.length = r.length by omega]
        · simp at h
      · rename_i h0
        simp only [Prod.mk.injEq] at h; exact absurd h.2 h0
theorem cdec_err (bs : List Bool) : (cdec bs).2 = 0 ∨ (((cdec bs).2 = 4 ∨ (cdec bs).2 = 5) ∧ (cdec bs).1 = []) := by
  unfold cdec cend
  split
  · exact .inr ⟨.inr rfl, rfl⟩
  · split
    · exact .inr ⟨.inl rfl, rfl⟩
    · split
      · split
        · exact .inl rfl
        · exact .inr ⟨.inl rfl, rfl⟩
      · rename_i h
        exact .inr ⟨(cgo_err _ _ _).resolve_left h, rfl⟩
theorem cdec_cut (l : List (Int × Int)) (hl : SmpsOk l) (hn : l.length ≤ 120) (k : Nat) (hk : k < (pack (ckGo l).2).length) : (cdec (unp ((pack (ckGo l).2).take k))).2 = 5 := by
  have hg := good_of l ⟨0, 0, 0, 0⟩ hl.1 hl.2 (fun _ _ h => absurd h (by decide))
  have hpl := pack_len (ckGo l).2
  have hup := unp_pack (ckGo l).2
  have hu : unp (pack (ckGo l).2) = unp ((pack (ckGo l).2).take k) ++ unp ((pack (ckGo l).2).drop k) := by rw [← unp_append', List.take_append_drop]
  have hkl := unp_len ((pack (ckGo l).2).take k)
  rw [List.length_take, Nat.min_eq_left (by omega)] at hkl
  rw [hup] at hu
  generalize unp ((pack (ckGo l).2).take k) = bs at *
  have e1 : (ckGo l).2 = bs ++ (ckGo l).2.drop bs.length := by
    have e2 := congrArg (List.take bs.length) hu
    rw [List.take_left' rfl, List.take_append_of_le_length (by omega)] at e2
    conv => lhs; rw [← List.take_append_drop bs.length (ckGo l).2]
    rw [e2]
  have hr : (ckGo l).2.drop bs.length ≠ [] := by
    intro e; have := congrArg List.length e; rw [List.length_drop] at this; simp at this; omega
  generalize (ckGo l).2.drop bs.length = r at *
  unfold cdec
  by_cases h8 : bs.length < 8
  · rw [if_pos h8]
  · rw [if_neg h8]
    rw [ckGo_enc] at e1
    rcases cut_split _ _ _ _ e1 with ⟨d, rfl, h2⟩ | ⟨d, hd, h2⟩
    · rw [List.take_left' (bitsOf_len _ _), List.drop_left' (bitsOf_len _ _), numOf_bitsOf _ _ (by omega), if_neg (by omega), cgo_cut l _ d r CkSt.ok0 (by show 0 + l.length ≤ 1000; omega) hg hr h2]
      rfl
    · have := congrArg List.length h2
      have hd1 : 0 < d.length := List.length_pos_iff.2 hd
      rw [bitsOf_len, List.length_append] at this; omega
theorem cdec_more (l : List (Int × Int)) (hl : SmpsOk l) (hn : l.length ≤ 120) (m : List UInt8) (hm : m ≠ []) : (cdec (unp (pack (ckGo l).2 ++ m))).2 = 4 := by
  have hg := good_of l ⟨0, 0, 0, 0⟩ hl.1 hl.2 (fun _ _ h => absurd h (by decide))
  have hml : 0 < m.length := List.length_pos_iff.2 hm
  rw [unp_append', unp_pack]
  rw [ckGo_enc]
  rw [List.append_assoc, List.append_assoc]
  unfold cdec
  rw [if_neg (by rw [List.length_append, bitsOf_len]; omega), List.take_left' (bitsOf_len _ _), List.drop_left' (bitsOf_len _ _), numOf_bitsOf _ _ (by omega), if_neg (by omega), cgo_back l _ _ CkSt.ok0 (by show 0 + l.length ≤ 1000; omega) hg]
  unfold cend
  simp only [if_true]
  rw [if_neg]
  intro h
  have := h.2
  rw [List.length_append, unp_len] at this; omega
end Go.Proofs.YtpoaomjpbjcmbaaDoor
