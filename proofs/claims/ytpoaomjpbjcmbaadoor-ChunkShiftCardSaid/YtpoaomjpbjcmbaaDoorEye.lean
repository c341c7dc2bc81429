/-
  bits.Eye: the walk of Get, of Left, of Open. The bits of bytes read as numbers.
-/
import Derived.Test.YtpoaomjpbjcmbaaDoorOrder
namespace Go.Proofs.YtpoaomjpbjcmbaaDoor
open Go.RowKit
set_option linter.unusedVariables false

/-- the number of bits, the highest one first -/
def numOf (bs : List Bool) : Nat := bs.foldl (fun v b => 2 * v + b.toNat) 0
theorem numOf_snoc (bs : List Bool) (b : Bool) : numOf (bs ++ [b]) = 2 * numOf bs + b.toNat := by unfold numOf; rw [List.foldl_append]; rfl
theorem bitsOf_snoc (k v : Nat) : bitsOf (k + 1) v = bitsOf k (v / 2) ++ [v.testBit 0] := by
  unfold bitsOf
  rw [List.range_succ, List.map_append, List.map_singleton]
  congr 1
  · refine List.map_congr_left fun i hi => ?_
    have hi := List.mem_range.1 hi
    rw [← Nat.testBit_succ, show (k - 1 - i).succ = k + 1 - 1 - i by omega]
  · rw [show k + 1 - 1 - k = 0 by omega]
theorem numOf_bitsOf : ∀ k v : Nat, v < 2 ^ k → numOf (bitsOf k v) = v
  | 0, v, h => by obtain rfl : v = 0 := by omega
                  rfl
  | k + 1, v, h => by
    rw [bitsOf_snoc, numOf_snoc, numOf_bitsOf k (v / 2) (by rw [Nat.pow_succ] at h; omega), Nat.testBit_zero]
    by_cases hv : v % 2 = 1
    · simp [hv]; omega
    · simp [hv]; omega
theorem numOf_lt (bs : List Bool) : numOf bs < 2 ^ bs.length := by
  have H : ∀ n, ∀ bs : List Bool, bs.length = n → numOf bs < 2 ^ n := by
    intro n
    induction n with
    | zero => intro bs h; rw [List.eq_nil_of_length_eq_zero h]; decide
    | succ n ih =>
      intro bs h
      obtain ⟨cs, c, rfl⟩ : ∃ cs c, bs = cs ++ [c] := ⟨bs.take n, bs[n], by rw [List.take_append_getElem, List.take_of_length_le (by omega)]⟩
      have := ih cs (by simp at h; omega)
      rw [numOf_snoc, Nat.pow_succ]
      cases c <;> simp <;> omega
  exact H _ bs rfl
/-- the bits at a place -/
def seen (l : List UInt8) (i k : Nat) : List Bool := ((unp l).drop i).take k
theorem seen_len (l : List UInt8) (i k : Nat) (h : i + k ≤ l.length * 8) : (seen l i k).length = k := by unfold seen; rw [List.length_take, List.length_drop, unp_len]; omega
theorem seen_snoc (l : List UInt8) (i k : Nat) (h : i + k < l.length * 8) : seen l i (k + 1) = seen l i k ++ [(l.getD ((i + k) / 8) 0).toNat.testBit (7 - (i + k) % 8)] := by
  unfold seen
  exact take_next (by rw [List.getElem?_drop, unp_at l _ h])

/-- the eye in memory -/
abbrev eyeO (v : Value) (i : Nat) : Array Value := #[v, .int .i64 (i : Int)]
theorem eye_bit (x : UInt8) (v s : Nat) (hv : v < 4611686018427387904) :
    bits .or .i64 ((v : Int) * 2) (bits .and .i64 (wrap64 ((x.toNat : Int) / 2 ^ s)) 1) = ((2 * v + (x.toNat.testBit s).toNat : Nat) : Int) := by
  have e0 : ((x.toNat : Int) / 2 ^ s) = ((x.toNat / 2 ^ s : Nat) : Int) := by rw [Int.natCast_ediv, Int.natCast_pow]; rfl
  have hd : x.toNat / 2 ^ s ≤ x.toNat := Nat.div_le_self _ _
  have hx := x.toNat_lt
  have e1 : bits .and .i64 ((x.toNat : Int) / 2 ^ s) 1 = (((x.toNat.testBit s).toNat : Nat) : Int) := by
    rw [e0, show (1 : Int) = ((1 : Nat) : Int) from rfl, i64_and _ _ (by omega) (by omega), Nat.and_one_is_mod, Nat.testBit_eq_decide_div_mod_eq]
    by_cases h : x.toNat / 2 ^ s % 2 = 1
    · simp [h]
    · have : x.toNat / 2 ^ s % 2 = 0 := by omega
      simp [this]
  have hb : (x.toNat.testBit s).toNat < 2 := by cases x.toNat.testBit s <;> simp
  rw [show wrap64 ((x.toNat : Int) / 2 ^ s) = (x.toNat : Int) / 2 ^ s by rw [e0]; generalize x.toNat / 2 ^ s = y at *; unfold wrap64; omega, e1, show (v : Int) * 2 = ((v * 2 : Nat) : Int) by omega, i64_or _ _ (by omega) (by omega)]
  congr 1
  have h2 := Nat.two_pow_add_eq_or_of_lt (i := 1) hb v
  rw [Nat.pow_one] at h2
  rw [Nat.mul_comm v 2, h2]

theorem eye_left (w : World) (g i n c : Nat) (A : Option Addr) (hn : n * 8 ≤ 9223372036854775807) (hi : i ≤ n * 8) (hk : Blk w g 101 (eyeO (.slice A n c) i)) :
    Calls Tryd.prog 54 #[.pointer (some ⟨g, 0, none⟩)] w fun e w' => e = .returned (.int .i64 ((n * 8 - i : Nat) : Int)) ∧ ∃ k, w' = w.drewN k := by
  have c0 := hk.cell 0; have c1 := hk.cell 1
  simp only [eyeO, List.getElem?_toArray, List.getElem?_cons_zero, List.getElem?_cons_succ] at c0 c1
  go_enter Tryd.func54, Tryd.ntmps54
  go_wp2
  go_quiet (fail)
  go_wp2
  go_ret
  refine ⟨?_, nq, rfl⟩
  show Ending.returned (.int .i64 (8 * (n : Int) - (i : Int))) = _
  rw [show 8 * (n : Int) - (i : Int) = ((n * 8 - i : Nat) : Int) by omega]
theorem Sl.chg {w w' : World} {sz n : Nat} {A : Option Addr} {xs : List Value} {M : Nat → Prop} (h : Sl w sz A n xs) (hc : Chg M w w') (hM : 0 < n → ∀ ad, A = some ad → ¬ M ad.block) : Sl w' sz A n xs :=
  ⟨h.1, fun hn => by obtain ⟨ad, e, hx⟩ := h.2 hn; exact ⟨ad, e, fun j u hu => hc.cell (hx j u hu) (by show ¬ M (Addr.add ad j).block; rw [show (Addr.add ad j).block = ad.block by unfold Addr.add; split <;> rfl]; exact hM hn ad e)⟩⟩
theorem eye_get (w : World) (g i n c k : Nat) (A : Option Addr) (l : List UInt8) (hn : n ≤ 1000000000000000) (hk : k ≤ 60) (hi : i + k ≤ n * 8) (hb : Blk w g 101 (eyeO (.slice A n c) i))
    (hA : Sl w 1 A n (byts l)) (hne : 0 < n → ∀ ad, A = some ad → ad.block ≠ g) :
    Calls Tryd.prog 52 #[.pointer (some ⟨g, 0, none⟩), .int .i64 (k : Int)] w fun e w' => e = .returned (.tuple #[.int .i64 (numOf (seen l i k) : Int), .bool true]) ∧ Blk w' g 101 (eyeO (.slice A n c) (i + k)) ∧ Chg (fun x => x = g) w w' := by
  have HB := hid hb; have HA := hid hA; have HNE := hid hne; clear hb hA hne
  have HLn := hid HA.out.lenb
  go_enter Tryd.func52, Tryd.ntmps52
  go_wp2_with fail
  refine (eye_left w g i n c A (by omega) (by omega) HB.out).mono ?_
  rintro e w1 ⟨rfl, kd, rfl⟩
  have i1 : ¬ ((n * 8 - i : Nat) : Int) < (k : Int) := by omega
  go_wp2
  go_loopw [6, 12] (fun v j wr => ∃ m : Nat, m ≤ k ∧ j = .int .i64 m ∧ v = .int .i64 (numOf (seen l i m) : Int) ∧ Blk wr g 101 (eyeO (.slice A n c) (i + m)) ∧ Chg (fun x => x = g) w wr) (fun _ j _ => k - (intOf j).toNat)
  case atStart => exact ⟨0, Nat.zero_le _, rfl, rfl, HB.out, (Chg.refl _ w).drewN _⟩
  case round =>
    obtain ⟨m, hm, rfl, rfl, hbk, hch⟩ := hrel
    have HBK := hid hbk; have HCH := hid hch; clear hbk hch
    by_cases hlt : m < k
    · obtain ⟨ad, x, rfl, hx, c2⟩ := (HA.out.chg HCH.out HNE.out).at_ (k := (i + m) / 8) (by omega)
      have HX := hid hx; clear hx
      have hlen := numOf_lt (seen l i m)
      have HLn' := HLn.out
      rw [seen_len l i m (by omega)] at hlen
      have hlt60 : numOf (seen l i m) < 4611686018427387904 := Nat.lt_of_lt_of_le hlen (Nat.le_trans (Nat.pow_le_pow_right (by decide) (show m ≤ 62 by omega)) (by decide))
      have HN := hid (show numOf (seen l i (m + 1)) = 2 * numOf (seen l i m) + (x.toNat.testBit (7 - (i + m) % 8)).toNat by
        rw [seen_snoc l i m (by omega), numOf_snoc, List.getD_eq_getElem?_getD, HX.out]; rfl)
      clear hlen HLn'
      have EB := eye_bit x (numOf (seen l i m)) (7 - (i + m) % 8) hlt60
      rw [← HN.out] at EB
      have HEB := hid EB; clear EB
      generalize numOf (seen l i m) = v at *
      have hq8 : i + m < n * 8 := by omega
      obtain ⟨q, hq⟩ : ∃ q, q = i + m := ⟨_, rfl⟩
      rw [← hq] at HBK c2 HX HN HEB hq8
      have HQ := hid hq; clear hq
      have c0 := HBK.out.cell 0; have c1 := HBK.out.cell 1; have f1 := HBK.out.frozen 1
      simp only [eyeO, List.getElem?_toArray, List.getElem?_cons_zero, List.getElem?_cons_succ] at c0 c1
      have i2 : (m : Int) < (k : Int) := by omega
      go_wp2_with fail
      go_region
      have HBK2 : Hid (Blk wr.drew g 101 (eyeO (.slice (some ad) n c) q)) := HBK.out
      have HCH2 := hid HCH.out.drew
      clear HBK HCH c0 c1 f1 c2
      generalize wr.drew = wb at *
      have c1 := HBK2.out.cell 1; have f1 := HBK2.out.frozen 1
      simp only [eyeO, List.getElem?_toArray, List.getElem?_cons_zero, List.getElem?_cons_succ] at c1
      have HBK3 := hid (HBK2.out.set_ 1 (.int .i64 ((q + 1 : Nat) : Int)))
      have HCH3 := hid (HCH2.out.setCell (p := ⟨g, 1, none⟩) (fun _ => rfl) (.int .i64 ((q + 1 : Nat) : Int)))
      go_wp2
      go_roundw
      case rel => exact ⟨m + 1, by omega, by go_num, by rw [HEB.out], by rw [show i + (m + 1) = q + 1 by have := HQ.out; omega]; exact HBK3.out, HCH3.out⟩
      case measure => simp [intOf] <;> omega
    · obtain rfl : m = k := by omega
      go_wp2
      go_ret2
      exact ⟨rfl, HBK.out, HCH.out⟩
end Go.Proofs.YtpoaomjpbjcmbaaDoor
