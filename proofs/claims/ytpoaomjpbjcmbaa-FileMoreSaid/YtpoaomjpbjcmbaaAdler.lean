/-
  What package adler computes, and the walks of its functions: each call returns what the plain function gives, and writes nothing that was there.
-/
import Derived.Test.YtpoaomjpbjcmbaaNum
namespace Go.Proofs.Ytpoaomjpbjcmbaa
open Go.RowKit
set_option linter.unusedVariables false

/-! ### the plain functions -/
def adlStep (p : Int × Int) (x : UInt8) : Int × Int := ((p.1 + (x.toNat : Int)) % 65521, (p.2 + (p.1 + (x.toNat : Int)) % 65521) % 65521)
def adlWith (p : Int × Int) (l : List UInt8) : Int × Int := l.foldl adlStep p
def adlSum (p : Int × Int) : Int := p.2 * 65536 + p.1
def adlOf (l : List UInt8) : Int := adlSum (adlWith (1, 0) l)
def AdlOk (p : Int × Int) : Prop := 0 ≤ p.1 ∧ p.1 < 65521 ∧ 0 ≤ p.2 ∧ p.2 < 65521
theorem adlStep_ok (p : Int × Int) (x : UInt8) : AdlOk (adlStep p x) := by
  unfold AdlOk adlStep; dsimp only; omega
theorem adlWith_snoc (p : Int × Int) (l : List UInt8) (x : UInt8) : adlWith p (l ++ [x]) = adlStep (adlWith p l) x := by simp [adlWith]
theorem adlWith_append (p : Int × Int) (l m : List UInt8) : adlWith p (l ++ m) = adlWith (adlWith p l) m := by simp [adlWith]
theorem adlWith_ok (p : Int × Int) (h : AdlOk p) (l : List UInt8) : AdlOk (adlWith p l) := by
  induction l generalizing p with
  | nil => exact h
  | cons x l ih => exact ih _ (adlStep_ok p x)
theorem adl_one_ok : AdlOk (1, 0) := by unfold AdlOk; omega
theorem shl16_or (a b : Nat) (ha : a < 65536) : b * 65536 ||| a = b * 65536 + a := by
  rw [Nat.mul_comm, show (65536 : Nat) = 2 ^ 16 from rfl, Nat.two_pow_add_eq_or_of_lt (by omega)]
theorem adl_bits (a b : Int) (h : AdlOk (a, b)) : bits .or .i64 (b * 65536) a = adlSum (a, b) := by
  obtain ⟨h1, h2, h3, h4⟩ := h
  dsimp only at h1 h2 h3 h4
  obtain ⟨x, rfl⟩ := Int.eq_ofNat_of_zero_le h1
  obtain ⟨y, rfl⟩ := Int.eq_ofNat_of_zero_le h3
  rw [show ((y : Int) * 65536) = ((y * 65536 : Nat) : Int) from by omega, i64_or _ _ (by omega) (by omega), shl16_or _ _ (by omega)]
  unfold adlSum; dsimp only; omega

/-! what a slide computes -/
def adlSlide (p : Int × Int) (n : Int) (o i : Int) : Int × Int :=
  ((p.1 + 65521 - o + i) % 65521, (p.2 + (p.1 + 65521 - o + i) % 65521 + 65521 - 1 + 65521 - n % 65521 * o) % 65521)
theorem adlSlide_ok (p : Int × Int) (n o i : Int) : AdlOk (adlSlide p n o i) := by unfold AdlOk adlSlide; dsimp only; omega
def sm : List UInt8 → Int
  | [] => 0
  | x :: t => (x.toNat : Int) + sm t
def ws : List UInt8 → Int
  | [] => 0
  | x :: t => ((t.length : Int) + 1) * (x.toNat : Int) + ws t
theorem adl_closed (l : List UInt8) : ∀ (a b : Int), AdlOk (a, b) → adlWith (a, b) l = ((a + sm l) % 65521, (b + (l.length : Int) * a + ws l) % 65521) := by
  induction l with
  | nil =>
    intro a b h
    obtain ⟨h1, h2, h3, h4⟩ := h
    dsimp only at h1 h2 h3 h4
    simp only [adlWith, List.foldl_nil, sm, ws, List.length_nil, Int.natCast_zero, Int.zero_mul, Int.add_zero]
    rw [Int.emod_eq_of_lt h1 h2, Int.emod_eq_of_lt h3 h4]
  | cons x t ih =>
    intro a b h
    have e : adlWith (a, b) (x :: t) = adlWith (adlStep (a, b) x) t := rfl
    rw [e, show adlStep (a, b) x = ((adlStep (a, b) x).1, (adlStep (a, b) x).2) from rfl, ih (adlStep (a, b) x).1 (adlStep (a, b) x).2 (adlStep_ok (a, b) x)]
    simp only [adlStep, sm, ws, List.length_cons, Int.natCast_add, Int.natCast_one]
    generalize (x.toNat : Int) = y
    generalize (t.length : Int) = n
    have q : n * ((a + y) % 65521) = n * a + n * y - 65521 * (n * ((a + y) / 65521)) := by
      rw [Int.emod_def, Int.mul_sub, Int.mul_add, ← Int.mul_assoc, Int.mul_comm n 65521, Int.mul_assoc]
    rw [q, Int.add_mul, Int.add_mul, Int.one_mul, Int.one_mul]
    generalize n * a = na
    generalize n * y = ny
    generalize n * ((a + y) / 65521) = nq
    refine Prod.ext ?_ ?_ <;> dsimp only <;> omega
theorem sm_append (a b : List UInt8) : sm (a ++ b) = sm a + sm b := by induction a <;> simp_all [sm]; omega
theorem ws_snoc (a : List UInt8) (x : UInt8) : ws (a ++ [x]) = ws a + sm a + (x.toNat : Int) := by
  induction a with
  | nil => simp [ws, sm]
  | cons y t ih =>
    simp only [List.cons_append, ws, sm, ih, List.length_append, List.length_cons, List.length_nil, Int.natCast_add, Int.natCast_one, Int.natCast_zero, Int.zero_add]
    rw [Int.add_mul, Int.one_mul]; omega
theorem adl_slides (t : List UInt8) (o i : UInt8) (n : Int) (hn : n = (t.length : Int) + 1) :
    adlSlide (adlWith (1, 0) (o :: t)) n (o.toNat : Int) (i.toNat : Int) = adlWith (1, 0) (t ++ [i]) := by
  rw [adl_closed _ 1 0 (by unfold AdlOk; omega), adl_closed _ 1 0 (by unfold AdlOk; omega)]
  simp only [adlSlide, sm, ws, sm_append, ws_snoc, List.length_cons, List.length_append, List.length_nil, Int.natCast_add, Int.natCast_one, Int.natCast_zero]
  generalize (o.toNat : Int) = u
  generalize (i.toNat : Int) = v
  have q : n % 65521 * u = n * u - 65521 * (n / 65521 * u) := by rw [Int.emod_def, Int.sub_mul, Int.mul_assoc]
  rw [q, hn, Int.add_mul, Int.one_mul]
  generalize (t.length : Int) * u = tu
  generalize (t.length : Int) = m
  generalize ((m + 1) / 65521 * u) = k
  refine Prod.ext ?_ ?_ <;> dsimp only <;> omega

theorem ws_append (a b : List UInt8) : ws (a ++ b) = ws a + (b.length : Int) * sm a + ws b := by
  induction a with
  | nil => simp [ws, sm]
  | cons y t ih =>
    simp only [List.cons_append, ws, sm, ih, List.length_append, Int.natCast_add]
    rw [Int.mul_add, Int.add_mul, Int.add_mul, Int.add_mul, Int.one_mul]; omega
theorem adlOf_eq (a b : List UInt8) : adlOf a = adlOf b ↔ (1 + sm a) % 65521 = (1 + sm b) % 65521 ∧ ((a.length : Int) + ws a) % 65521 = ((b.length : Int) + ws b) % 65521 := by
  unfold adlOf adlSum
  rw [adl_closed _ 1 0 (by unfold AdlOk; omega), adl_closed _ 1 0 (by unfold AdlOk; omega)]
  dsimp only
  omega
theorem split_two (x : List UInt8) (i : Nat) (u v : UInt8) (hu : x[i]? = some u) (hv : x[i + 1]? = some v) : ∃ p q, x = p ++ u :: v :: q ∧ p.length = i := by
  obtain ⟨h1, h2⟩ := List.getElem?_eq_some_iff.1 hu
  obtain ⟨h3, h4⟩ := List.getElem?_eq_some_iff.1 hv
  refine ⟨x.take i, x.drop (i + 2), ?_, by rw [List.length_take]; omega⟩
  rw [← h2, ← h4, List.getElem_cons_drop, List.getElem_cons_drop, List.take_append_drop]
theorem adl_sees_byte (x : List UInt8) (i : Nat) (u v u' : UInt8) (hu : x[i]? = some u) (hv : x[i + 1]? = some v) : (adlOf (x.set i u') == adlOf x) = (u' == u) := by
  obtain ⟨p, q, rfl, rfl⟩ := split_two x i u v hu hv
  have e : (p ++ u :: v :: q).set p.length u' = p ++ u' :: v :: q := by simp
  rw [e, Bool.eq_iff_iff, beq_iff_eq, beq_iff_eq, adlOf_eq]
  constructor
  · rintro ⟨h, _⟩
    simp only [sm_append, sm] at h
    have := u.toNat_lt; have := u'.toNat_lt
    exact UInt8.toNat_inj.1 (by omega)
  · rintro rfl; exact ⟨rfl, rfl⟩
theorem adl_sees_swap (x : List UInt8) (i : Nat) (u v : UInt8) (hu : x[i]? = some u) (hv : x[i + 1]? = some v) : (adlOf ((x.set i v).set (i + 1) u) == adlOf x) = (u == v) := by
  obtain ⟨p, q, rfl, rfl⟩ := split_two x i u v hu hv
  have e : ((p ++ u :: v :: q).set p.length v).set (p.length + 1) u = p ++ v :: u :: q := by simp
  rw [e, Bool.eq_iff_iff, beq_iff_eq, beq_iff_eq, adlOf_eq]
  constructor
  · rintro ⟨_, h⟩
    simp only [ws_append, ws, List.length_append, List.length_cons, Int.natCast_add, Int.natCast_one] at h
    have := u.toNat_lt; have := v.toNat_lt
    simp only [Int.add_mul, Int.one_mul] at h
    exact UInt8.toNat_inj.1 (by omega)
  · rintro rfl; exact ⟨rfl, rfl⟩
theorem xor_self_iff (u b : UInt8) : (u ^^^ b == u) = (b == 0) := by
  rw [Bool.eq_iff_iff, beq_iff_eq, beq_iff_eq]
  constructor
  · intro h
    have : u ^^^ (u ^^^ b) = u ^^^ u := by rw [h]
    simpa [← UInt8.xor_assoc] using this
  · rintro rfl; simp

/-! ### the walks -/
set_option maxHeartbeats 400000 in
theorem adl_with (a b0 : Int) (A : Option Addr) (n c : Nat) (l : List UInt8) (w : World) (hab : AdlOk (a, b0)) (hn : n ≤ 9223372036854775807) (h : Sl w 1 A n (byts l)) :
    Calls Try.prog 25 #[.agg #[.int .i64 a, .int .i64 b0], .slice A n c] w fun e w' =>
      e = .returned (.agg #[.int .i64 (adlWith (a, b0) l).1, .int .i64 (adlWith (a, b0) l).2]) ∧ Below w.heap.size w w' := by
  have H := hid h; clear h
  go_enter Try.func25, Try.ntmps25
  go_wp2
  go_loopw [9] (fun i wr => ∃ k : Nat, k ≤ n ∧ i = .int .i64 k ∧ wr = (w.alloc (.cells #[.int .i64 (adlWith (a, b0) (l.take k)).1, .int .i64 (adlWith (a, b0) (l.take k)).2] 49)).alloc (.cells #[.int .i64 0, .int .i64 0] 49)) (fun i _ => n - (intOf i).toNat)
  case atStart => exact ⟨0, Nat.zero_le _, rfl, rfl⟩
  case round =>
    obtain ⟨k, hk, rfl, rfl⟩ := hrel
    obtain ⟨ha0, ha1, hb0, hb1⟩ := adlWith_ok (a, b0) hab (l.take k)
    by_cases hlt : k < n
    · obtain ⟨ad, x, rfl, hx, hcell⟩ := H.out.at_ hlt
      have HX := hid hx; clear hx
      have hb := World.block_lt_of_cell? w _ hcell
      have hx0 := byte_ge x
      have hx1 := byte_lt x
      have HS := hid (show adlWith (a, b0) (l.take (k + 1)) = adlStep (adlWith (a, b0) (l.take k)) x by rw [take_next HX.out, adlWith_snoc])
      generalize hp : adlWith (a, b0) (l.take k) = p at *
      have HP := hid hp; clear hp
      go_wp2
      go_roundw
      case rel => exact ⟨k + 1, by omega, by go_num, by rw [HS.out]; simp [adlStep]⟩
      case measure => simp [intOf]; omega
    · obtain rfl : k = n := by omega
      go_wp2
      refine bodyPost_ret (v := .agg #[.int .i64 (adlWith (a, b0) l).1, .int .i64 (adlWith (a, b0) l).2]) ?_ rfl ⟨rfl, ?_⟩
      · have e : l.take k = l := List.take_of_length_le (by have := H.out.lenb; omega)
        rw [e]
        simp [results, Try.results25, go_sem]
      · exact ((Below.refl _ _).alloc (Nat.le_refl _) _).alloc (by simp) _

theorem adl_sum (a b : Int) (w : World) (h : AdlOk (a, b)) :
    Calls Try.prog 26 #[.agg #[.int .i64 a, .int .i64 b]] w fun e w' => e = .returned (.int .i64 (adlSum (a, b))) ∧ Below w.heap.size w w' := by
  obtain ⟨h1, h2, h3, h4⟩ := id h
  dsimp only at h1 h2 h3 h4
  have HS := hid (adl_bits a b h); clear h
  go_enter Try.func26, Try.ntmps26
  go_wp2
  go_ret
  refine ⟨?_, (Below.refl _ _).alloc (Nat.le_refl _) _⟩
  show Ending.returned (.int .i64 (bits .or .i64 (b * 65536) a)) = _
  rw [HS.out]

theorem adl_of (A : Option Addr) (n c : Nat) (l : List UInt8) (w : World) (hn : n ≤ 9223372036854775807) (h : Sl w 1 A n (byts l)) :
    Calls Try.prog 17 #[.slice A n c] w fun e w' => e = .returned (.int .i64 (adlOf l)) ∧ Below w.heap.size w w' := by
  have H := hid h; clear h
  have hok := hid (adlWith_ok (1, 0) adl_one_ok l)
  go_enter Try.func17, Try.ntmps17
  go_wp2_with fail
  refine (adl_with 1 0 A n c l w adl_one_ok hn H.out).mono ?_
  rintro e w1 ⟨rfl, hb1⟩
  have HB := hid hb1; clear hb1
  go_wp2_with fail
  refine (adl_sum _ _ w1 hok.out).mono ?_
  rintro e w2 ⟨rfl, hb2⟩
  go_wp2
  go_ret
  exact ⟨rfl, HB.out.trans (hb2.mono HB.out.size)⟩

theorem adl_split_and (a b : Int) (h : AdlOk (a, b)) : bits .and .i64 (adlSum (a, b)) 65535 = a := by
  obtain ⟨h1, h2, h3, h4⟩ := h
  dsimp only at h1 h2 h3 h4
  obtain ⟨x, rfl⟩ := Int.eq_ofNat_of_zero_le h1
  obtain ⟨y, rfl⟩ := Int.eq_ofNat_of_zero_le h3
  unfold adlSum; dsimp only
  rw [show ((y : Int) * 65536 + (x : Int)) = ((y * 65536 + x : Nat) : Int) from by omega, show (65535 : Int) = ((65535 : Nat) : Int) from rfl, i64_and _ _ (by omega) (by omega),
    show (65535 : Nat) = 2 ^ 16 - 1 from rfl, Nat.and_two_pow_sub_one_eq_mod]
  omega
theorem adl_split_shr (a b : Int) (h : AdlOk (a, b)) : adlSum (a, b) / 65536 = b := by
  obtain ⟨h1, h2, h3, h4⟩ := h
  unfold adlSum; dsimp only at h1 h2 h3 h4 ⊢; omega
theorem adl_sum_bd (a b : Int) (h : AdlOk (a, b)) : 0 ≤ adlSum (a, b) ∧ adlSum (a, b) ≤ 4294967295 := by
  obtain ⟨h1, h2, h3, h4⟩ := h
  unfold adlSum; dsimp only at h1 h2 h3 h4 ⊢; omega

set_option maxHeartbeats 400000 in
theorem octets (A : Option Addr) (n c : Nat) (m : Nat) (l : List UInt8) (w : World) (hn : n ≤ c) (hc : c ≤ maxLen) (hm : m ≤ 1048576) (h : Sl w 1 A n (byts l)) :
    Calls Try.prog 14 #[.slice A n c, .int .i64 m] w fun e w' => ∃ v, e = .returned v ∧ Ow w w' 5 1 gB v (l.take m) := by
  have hl := h.lenb
  have HP := hid (h.pre (k := min n m) (by omega)); clear h
  unfold maxLen at hc
  have hc' : c ≤ 9223372036854775807 := hc
  by_cases hnm : n ≤ m
  · have H : Hid (Sl w 1 A n (byts (l.take m))) := by
      have := HP.out; rw [Nat.mul_one, byts_take, show min n m = n from by omega] at this
      rw [show l.take m = l.take n from by rw [List.take_of_length_le (by omega), List.take_of_length_le (by omega)]]; exact this
    have HM := hid (show (l.take m).length = n by rw [List.length_take]; omega)
    clear HP hl
    go_enter Try.func14, Try.ntmps14
    go_wp2_with (at_builtin; refine wpList_app0 elmB rfl (.const (.slice none 0 0)) (.tmp 10) rfl rfl rfl H.out (byts_one _) (by simp only [maxLen]; omega) (by omega) ?_; intro v1 w1 hown1 hb1)
    go_ret
    exact ⟨v1, rfl, by rw [HM.out]; exact hown1, hb1⟩
  · have H : Hid (Sl w 1 A m (byts (l.take m))) := by
      have := HP.out; rw [Nat.mul_one, byts_take, show min n m = m from by omega] at this; exact this
    have HM := hid (show (l.take m).length = m by rw [List.length_take]; omega)
    clear HP hl
    go_enter Try.func14, Try.ntmps14
    go_wp2_with (at_builtin; refine wpList_app0 elmB rfl (.const (.slice none 0 0)) (.tmp 10) rfl rfl rfl H.out (byts_one _) (by simp only [maxLen]; omega) (by omega) ?_; intro v1 w1 hown1 hb1)
    go_ret
    exact ⟨v1, rfl, by rw [HM.out]; exact hown1, hb1⟩

end Go.Proofs.Ytpoaomjpbjcmbaa
