/-
  The plain law of BitsOrder, and the bits of packed bytes.
-/
import Derived.Test.YtpoaomjpbjcmbaaDoorBitsLaw
import Derived.Test.YtpoaomjpbjcmbaaDoorRow
namespace Go.Proofs.YtpoaomjpbjcmbaaDoor
open Go.RowKit
set_option linter.unusedVariables false

theorem packStep_getD (l : List UInt8) (n : Nat) (b : Bool) (hn : l.length = (n + 7) / 8) (i : Nat) :
    (packStep l n b).getD i 0 = if i = n / 8 then l.getD i 0 ||| (if b then UInt8.ofNat (2 ^ (7 - n % 8)) else 0) else l.getD i 0 := by
  unfold packStep
  have h1 : ∀ j, (if n % 8 = 0 then l ++ [0] else l).getD j 0 = l.getD j 0 := by
    intro j
    split
    · rw [List.getD_eq_getElem?_getD, List.getD_eq_getElem?_getD]
      by_cases hj : j < l.length
      · rw [List.getElem?_append_left hj]
      · rw [List.getElem?_append_right (by omega), List.getElem?_eq_none (l := l) (by omega)]
        by_cases hk : j - l.length = 0
        · rw [hk]; rfl
        · rw [List.getElem?_eq_none (by simp; omega)]
    · rfl
  have h2 : n / 8 < (if n % 8 = 0 then l ++ [0] else l).length := by
    split
    · rw [List.length_append]; simp; omega
    · omega
  dsimp only
  rw [h1]
  generalize (if n % 8 = 0 then l ++ [0] else l) = l1 at *
  rw [List.getD_eq_getElem?_getD, List.getElem?_set]
  by_cases hi : n / 8 = i
  · rw [if_pos hi, if_pos h2, if_pos hi.symm]; subst hi; rfl
  · rw [if_neg hi, if_neg (fun h => hi h.symm), ← List.getD_eq_getElem?_getD, h1]
theorem pack_bit (bs : List Bool) : ∀ i, ((pack bs).getD (i / 8) 0).toNat.testBit (7 - i % 8) = bs.getD i false := by
  have H : ∀ n, ∀ bs : List Bool, bs.length = n → ∀ i, ((pack bs).getD (i / 8) 0).toNat.testBit (7 - i % 8) = bs.getD i false := by
    intro n
    induction n with
    | zero => intro bs h i; rw [List.eq_nil_of_length_eq_zero h]; simp [pack]
    | succ n ih =>
      intro bs h i
      obtain ⟨cs, c, rfl⟩ : ∃ cs c, bs = cs ++ [c] := ⟨bs.take n, bs[n], by rw [List.take_append_getElem, List.take_of_length_le (by omega)]⟩
      have hn : cs.length = n := by simp at h; omega
      rw [pack_snoc, packStep_getD _ _ _ (by rw [pack_len]), hn]
      have hi := ih cs hn i
      by_cases h8 : i / 8 = n / 8
      · rw [if_pos h8, UInt8.toNat_or, Nat.testBit_or, hi]
        have hm : (if c then UInt8.ofNat (2 ^ (7 - n % 8)) else 0).toNat.testBit (7 - i % 8) = (c && decide (i = n)) := by
          cases c
          · simp
          · have hp : 2 ^ (7 - n % 8) < 2 ^ 8 := Nat.pow_lt_pow_right (by decide) (by omega)
            rw [if_pos rfl, show (UInt8.ofNat (2 ^ (7 - n % 8))).toNat = 2 ^ (7 - n % 8) % 2 ^ 8 from rfl, Nat.mod_eq_of_lt hp, Nat.testBit_two_pow, Bool.true_and]
            congr 1
            apply propext; omega
        rw [hm]
        by_cases hin : i = n
        · subst hin
          rw [List.getD_eq_getElem?_getD, List.getElem?_eq_none (by omega), List.getD_eq_getElem?_getD, ← hn, List.getElem?_concat_length]; simp
        · rw [decide_eq_false hin, Bool.and_false, Bool.or_false]
          rw [List.getD_eq_getElem?_getD, List.getD_eq_getElem?_getD]
          by_cases hlt : i < n
          · rw [List.getElem?_append_left (by omega)]
          · rw [List.getElem?_eq_none (by omega), List.getElem?_eq_none (by simp; omega)]
      · rw [if_neg h8, hi]
        rw [List.getD_eq_getElem?_getD, List.getD_eq_getElem?_getD]
        by_cases hlt : i < n
        · rw [List.getElem?_append_left (by omega)]
        · rw [List.getElem?_eq_none (by omega), List.getElem?_eq_none (by simp; omega)]
  exact H _ bs rfl

/-- the bits of bytes -/
def unp (l : List UInt8) : List Bool := l.flatMap fun x => bitsOf 8 x.toNat
theorem unp_len (l : List UInt8) : (unp l).length = l.length * 8 := by
  induction l with
  | nil => rfl
  | cons x l ih => unfold unp at *; rw [List.flatMap_cons, List.length_append, ih, bitsOf_len, List.length_cons]; omega
theorem unp_at (l : List UInt8) : ∀ i, i < l.length * 8 → (unp l)[i]? = some ((l.getD (i / 8) 0).toNat.testBit (7 - i % 8)) := by
  induction l with
  | nil => intro i h; simp at h
  | cons x l ih =>
    intro i h
    rw [List.length_cons] at h
    show (bitsOf 8 x.toNat ++ unp l)[i]? = _
    by_cases h8 : i < 8
    · rw [List.getElem?_append_left (by rw [bitsOf_len]; exact h8), bitsOf_at _ _ _ h8, show i / 8 = 0 by omega, show i % 8 = i by omega]; rfl
    · rw [List.getElem?_append_right (by rw [bitsOf_len]; omega), bitsOf_len, ih (i - 8) (by omega), show i / 8 = (i - 8) / 8 + 1 by omega, show (i - 8) % 8 = i % 8 by omega, List.getD_cons_succ]
theorem unp_pack (bs : List Bool) : unp (pack bs) = bs ++ List.replicate ((pack bs).length * 8 - bs.length) false := by
  have hl := pack_len bs
  refine List.ext_getElem? fun i => ?_
  by_cases hi : i < (pack bs).length * 8
  · rw [unp_at _ _ hi, pack_bit]
    by_cases h : i < bs.length
    · rw [List.getElem?_append_left h, List.getD_eq_getElem?_getD, List.getElem?_eq_getElem h]; rfl
    · rw [List.getElem?_append_right (by omega), List.getD_eq_getElem?_getD, List.getElem?_eq_none (by omega), List.getElem?_replicate, if_pos (by omega)]; rfl
  · rw [List.getElem?_eq_none (by rw [unp_len]; omega), List.getElem?_eq_none (by simp; omega)]

/-- -1, 0, 1: which of two lists of numbers stands first -/
def lexs : List Nat → List Nat → Int
  | x :: a, y :: b => if x = y then lexs a b else if x < y then -1 else 1
  | _, _ => 0
theorem lexs_self (z : List Nat) : lexs z z = 0 := by
  induction z with
  | nil => rfl
  | cons x z ih => simp [lexs, ih]
theorem lexs_append (z : List Nat) : ∀ a b : List Nat, a.length = b.length → lexs (a ++ z) (b ++ z) = lexs a b
  | [], [], _ => lexs_self z
  | x :: a, y :: b, h => by
    rw [List.cons_append, List.cons_append, lexs, lexs, lexs_append z a b (by simpa using h)]
  | [], _ :: _, h => by simp at h
  | _ :: _, [], h => by simp at h
theorem bitsOf_cons (k v : Nat) : bitsOf (k + 1) v = v.testBit k :: bitsOf k (v % 2 ^ k) := by
  unfold bitsOf
  rw [List.range_succ_eq_map, List.map_cons, List.map_map]
  congr 1
  refine List.map_congr_left fun i hi => ?_
  have hi := List.mem_range.1 hi
  simp only [Function.comp]
  rw [Nat.testBit_mod_two_pow]
  rw [show k + 1 - 1 - (i + 1) = k - 1 - i by omega]
  simp; omega
theorem lex_field (r s : List Nat) : ∀ k v u : Nat, v < 2 ^ k → u < 2 ^ k →
    lexs ((bitsOf k v).map Bool.toNat ++ r) ((bitsOf k u).map Bool.toNat ++ s) = if v = u then lexs r s else if v < u then -1 else 1
  | 0, v, u, hv, hu => by
    obtain rfl : v = 0 := by omega
    obtain rfl : u = 0 := by omega
    simp [bitsOf]
  | k + 1, v, u, hv, hu => by
    have hp : 0 < 2 ^ k := Nat.pow_pos (by decide)
    have bit : ∀ x : Nat, x < 2 ^ (k + 1) → (x.testBit k = true ∧ x = 2 ^ k + x % 2 ^ k) ∨ (x.testBit k = false ∧ x = x % 2 ^ k) := by
      intro x hx
      rw [Nat.testBit_eq_decide_div_mod_eq]
      have h1 : x / 2 ^ k < 2 := by rw [Nat.div_lt_iff_lt_mul hp]; rw [Nat.pow_succ] at hx; omega
      have h2 := Nat.div_add_mod x (2 ^ k)
      generalize hq : x / 2 ^ k = q at *
      have : q = 0 ∨ q = 1 := by omega
      rcases this with rfl | rfl
      · refine .inr ⟨by simp, ?_⟩; omega
      · refine .inl ⟨by simp, ?_⟩; omega
    have hv' := Nat.mod_lt v hp
    have hu' := Nat.mod_lt u hp
    have ih := lex_field r s k (v % 2 ^ k) (u % 2 ^ k) hv' hu'
    rw [bitsOf_cons, bitsOf_cons, List.map_cons, List.map_cons, List.cons_append, List.cons_append, lexs]
    rcases bit v hv with ⟨a1, a2⟩ | ⟨a1, a2⟩ <;> rcases bit u hu with ⟨b1, b2⟩ | ⟨b1, b2⟩ <;> rw [a1, b1]
    · rw [if_pos rfl, ih]
      clear ih
      generalize v % 2 ^ k = x at *; generalize u % 2 ^ k = y at *
      by_cases h : x = y
      · rw [if_pos h, if_pos (by omega)]
      · have h3 : ¬ v = u := by omega
        rw [if_neg h, if_neg h3]
        by_cases h' : x < y
        · have h2 : v < u := by omega
          rw [if_pos h', if_pos h2]
        · have h2 : ¬ v < u := by omega
          rw [if_neg h', if_neg h2]
    · rw [if_neg (by decide), if_neg (by decide), if_neg (by omega), if_neg (by omega)]
    · rw [if_neg (by decide), if_pos (by decide), if_neg (by omega), if_pos (by omega)]
    · rw [if_pos rfl, ih, ← a2, ← b2]
theorem lex_fields : ∀ x y : List (Nat × Nat), x.map Prod.fst = y.map Prod.fst → (∀ f ∈ x, f.2 < 2 ^ f.1) → (∀ f ∈ y, f.2 < 2 ^ f.1) →
    lexs ((fieldBits x).map Bool.toNat) ((fieldBits y).map Bool.toNat) = lexs (x.map Prod.snd) (y.map Prod.snd)
  | [], [], _, _, _ => rfl
  | [], _ :: _, h, _, _ => by simp at h
  | _ :: _, [], h, _, _ => by simp at h
  | (k, v) :: x, (k', u) :: y, h, hx, hy => by
    have h1 : k = k' ∧ x.map Prod.fst = y.map Prod.fst := by simpa using h
    obtain ⟨rfl, h1⟩ := h1
    show lexs ((bitsOf k v ++ fieldBits x).map Bool.toNat) ((bitsOf k u ++ fieldBits y).map Bool.toNat) = _
    rw [List.map_append, List.map_append, lex_field _ _ k v u (hx _ List.mem_cons_self) (hy _ List.mem_cons_self), List.map_cons, List.map_cons, lexs,
      lex_fields x y h1 (fun f hf => hx f (List.mem_cons_of_mem _ hf)) (fun f hf => hy f (List.mem_cons_of_mem _ hf))]
theorem lex_bytes : ∀ x y : List UInt8, x.length = y.length → lexs ((unp x).map Bool.toNat) ((unp y).map Bool.toNat) = lexs (x.map UInt8.toNat) (y.map UInt8.toNat)
  | [], [], _ => rfl
  | [], _ :: _, h => by simp at h
  | _ :: _, [], h => by simp at h
  | v :: x, u :: y, h => by
    show lexs ((bitsOf 8 v.toNat ++ unp x).map Bool.toNat) ((bitsOf 8 u.toNat ++ unp y).map Bool.toNat) = _
    rw [List.map_append, List.map_append, lex_field _ _ 8 _ _ v.toNat_lt u.toNat_lt, List.map_cons, List.map_cons, lexs, lex_bytes x y (by simpa using h)]
theorem fieldBits_len_eq : ∀ x y : List (Nat × Nat), x.map Prod.fst = y.map Prod.fst → (fieldBits x).length = (fieldBits y).length
  | [], [], _ => rfl
  | [], _ :: _, h => by simp at h
  | _ :: _, [], h => by simp at h
  | (k, v) :: x, (k', u) :: y, h => by
    have h1 : k = k' ∧ x.map Prod.fst = y.map Prod.fst := by simpa using h
    obtain ⟨rfl, h1⟩ := h1
    show (bitsOf k v ++ fieldBits x).length = (bitsOf k u ++ fieldBits y).length
    rw [List.length_append, List.length_append, bitsOf_len, bitsOf_len, fieldBits_len_eq x y h1]
theorem order_law (x y : List (Nat × Nat)) (h : x.map Prod.fst = y.map Prod.fst) (hx : ∀ f ∈ x, f.2 < 2 ^ f.1) (hy : ∀ f ∈ y, f.2 < 2 ^ f.1) :
    lexs ((pack (fieldBits x)).map UInt8.toNat) ((pack (fieldBits y)).map UInt8.toNat) = lexs (x.map Prod.snd) (y.map Prod.snd) := by
  have hl := fieldBits_len_eq x y h
  have hp : (pack (fieldBits x)).length = (pack (fieldBits y)).length := by rw [pack_len, pack_len, hl]
  rw [← lex_bytes _ _ hp, unp_pack, unp_pack, hp, hl, List.map_append, List.map_append, lexs_append _ _ _ (by rw [List.length_map, List.length_map]; exact hl), lex_fields x y h hx hy]
/-- the loops go down from the end -/
theorem lexs_drop (a b : List Nat) (i u v : Nat) (ha : a[i]? = some u) (hb : b[i]? = some v) :
    lexs (a.drop i) (b.drop i) = if u = v then lexs (a.drop (i + 1)) (b.drop (i + 1)) else if u < v then -1 else 1 := by
  obtain ⟨h1, h2⟩ := List.getElem?_eq_some_iff.1 ha
  obtain ⟨h3, h4⟩ := List.getElem?_eq_some_iff.1 hb
  rw [List.drop_eq_getElem_cons h1, List.drop_eq_getElem_cons h3, h2, h4, lexs]
theorem fieldsOf_widths (ws vs : List Int) (n : Nat) (x : List (Nat × Nat)) (hx : ∀ f ∈ x, f.1 ≤ 60) (hn : x.length ≤ n) : (fieldsOf (widthsOf x) vs n).map Prod.fst = x.map Prod.fst := by
  have hl : (fieldsOf (widthsOf x) vs n).length = x.length := by unfold fieldsOf widthsOf; rw [List.length_mapIdx, List.length_take, List.length_map]; omega
  refine List.ext_getElem (by rw [List.length_map, List.length_map, hl]) fun i h1 h2 => ?_
  rw [List.getElem_map, List.getElem_map]
  have hi : i < x.length := by rw [List.length_map] at h2; exact h2
  have := hx x[i] (List.getElem_mem _)
  unfold fieldsOf
  rw [List.getElem_mapIdx, List.getElem_take]
  unfold widthsOf fieldAt
  rw [List.getElem_map]
  dsimp only
  unfold pk; omega
end Go.Proofs.YtpoaomjpbjcmbaaDoor
