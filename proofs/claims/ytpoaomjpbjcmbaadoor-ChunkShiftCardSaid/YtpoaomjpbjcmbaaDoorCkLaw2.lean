/-
  ChunkShift, ChunkSteady: their walks.
-/
import Derived.Test.YtpoaomjpbjcmbaaDoorCkLaw
import Derived.Deep.RegionLaw
namespace Go.Proofs.YtpoaomjpbjcmbaaDoor
open Go.RowKit
set_option linter.unusedVariables false
def shl (d : Int) (l : List (Int × Int)) : List (Int × Int) := l.map fun x => (x.1 + d, x.2)
theorem shl_len (d : Int) (l : List (Int × Int)) : (shl d l).length = l.length := by unfold shl; rw [List.length_map]
theorem shl_snoc (d : Int) (l : List (Int × Int)) (x : Int × Int) : shl d (l ++ [x]) = shl d l ++ [(x.1 + d, x.2)] := by unfold shl; rw [List.map_append]; rfl
theorem cenc_shift (d : Int) : ∀ (l : List (Int × Int)) (s : CkSt), 0 < s.count → cenc ⟨s.t + d, s.v, s.step, s.count⟩ (shl d l) = cenc s l
  | [], _, _ => rfl
  | x :: l, s, h => by
    have ih := cenc_shift d l (s.next x) (Nat.succ_pos _)
    show zcode _ ++ (zcode _ ++ cenc (CkSt.next ⟨s.t + d, s.v, s.step, s.count⟩ (x.1 + d, x.2)) (shl d l)) = zcode _ ++ (zcode _ ++ cenc (s.next x) l)
    have e1 : CkSt.codes ⟨s.t + d, s.v, s.step, s.count⟩ (x.1 + d, x.2) = s.codes x := by
      unfold CkSt.codes
      rw [if_neg (by simp only; omega), if_neg (by omega)]
      exact Prod.ext (by simp only; omega) rfl
    have e2 : CkSt.next ⟨s.t + d, s.v, s.step, s.count⟩ (x.1 + d, x.2) = ⟨(s.next x).t + d, (s.next x).v, (s.next x).step, (s.next x).count⟩ := by
      unfold CkSt.next
      simp only [h, if_true]
      congr 1; omega
    rw [e1, e2, ih]
theorem ck_shift (d : Int) (l : List (Int × Int)) : (pack (ckGo l).2).length ≤ (pack (ckGo (shl d l)).2).length + 8 ∧ (pack (ckGo (shl d l)).2).length ≤ (pack (ckGo l).2).length + 8 := by
  rw [pack_len, pack_len, ckGo_enc, ckGo_enc, List.length_append, List.length_append, bitsOf_len, bitsOf_len]
  match l with
  | [] => exact ⟨Nat.le_add_right _ _, Nat.le_add_right _ _⟩
  | x :: l =>
    have e1 : cenc ⟨0, 0, 0, 0⟩ (shl d (x :: l)) = zcode (x.1 + d) ++ (zcode x.2 ++ cenc ⟨x.1, x.2, 0, 1⟩ l) := by
      rw [← cenc_shift d l ⟨x.1, x.2, 0, 1⟩ (Nat.succ_pos 0)]; rfl
    have e2 : cenc ⟨0, 0, 0, 0⟩ (x :: l) = zcode x.1 ++ (zcode x.2 ++ cenc ⟨x.1, x.2, 0, 1⟩ l) := rfl
    rw [e1, e2]
    have h1 := zcode_len x.1
    have h2 := zcode_len (x.1 + d)
    generalize zcode x.2 ++ cenc ⟨x.1, x.2, 0, 1⟩ l = RR at *
    rw [List.length_append, List.length_append]
    generalize RR.length = R at *
    generalize (zcode x.1).length = X at *
    generalize (zcode (x.1 + d)).length = Y at *
    have h3 : 8 + (X + R) + 7 ≤ 8 + (Y + R) + 7 + 64 := by omega
    have h4 : 8 + (Y + R) + 7 ≤ 8 + (X + R) + 7 + 64 := by omega
    have g1 := Nat.div_le_div_right (c := 8) h3
    have g2 := Nat.div_le_div_right (c := 8) h4
    rw [show (8 + (Y + R) + 7 + 64) / 8 = (8 + (Y + R) + 7) / 8 + 8 by omega] at g1
    rw [show (8 + (X + R) + 7 + 64) / 8 = (8 + (X + R) + 7) / 8 + 8 by omega] at g2
    exact ⟨g1, g2⟩
theorem shl_ok (d : Int) (l : List (Int × Int)) (h : SmpsIn l) (h0 : 0 ≤ d) (h1 : d ≤ 9007199254740992) : SmpsOk (shl d l) := by
  refine ⟨fun x hx => ?_, fun k x y hx hy => ?_⟩
  · obtain ⟨y, hy, rfl⟩ := List.mem_map.1 hx
    have := h.bd y hy
    unfold SmpOk; simp only; omega
  · unfold shl at hx hy
    rw [List.getElem?_map] at hx hy
    obtain ⟨x', h2, rfl⟩ := Option.map_eq_some_iff.1 hx
    obtain ⟨y', h3, rfl⟩ := Option.map_eq_some_iff.1 hy
    have := h.up k x' y' h2 h3
    simp only; omega
set_option maxRecDepth 100000 in
set_option maxHeartbeats 1000000 in
theorem law_chunkShift (A : Option Addr) (n c : Nat) (l : List (Int × Int × Bool)) (a b : Int) (w : World) (hn : n ≤ c) (hc : c ≤ maxLen) (_ : c * 24 ≤ 140737488351232) (hx : Sl w 3 A n (l.flatMap gD)) (hd : ∀ d ∈ l, DotOk d)
    (ha : -9223372036854775808 ≤ a) (ha1 : a ≤ 9223372036854775807) (hb : -9223372036854775808 ≤ b) (hb1 : b ≤ 9223372036854775807) (ht : ZTab w) :
    Calls Tryd.prog 14 #[.slice A n c, .int .i64 a, .int .i64 b] w fun e w' => e = .returned (.bool true) ∧ Below w.heap.size w w' := by
  have HX := hid hx; have HD := hid hd; have HT := hid ht; clear hx hd ht
  go_enter Tryd.func14, Tryd.ntmps14
  go_wp2_with fail
  refine (samples A n c l a 60 w hn hc HX.out HD.out ha ha1 (by omega)).mono ?_
  rintro e w1 ⟨v1, rfl, ho1⟩
  obtain ⟨hin, hlen⟩ := smps_in a ha ha1 l HD.out 60
  have HSI := hid hin
  obtain ⟨s, hs⟩ : ∃ s, smps l a 60 = s := ⟨_, rfl⟩
  rw [hs] at ho1 HSI hlen
  clear hin hs
  obtain ⟨A1, c1, rfl, hc1, hc2⟩ := ho1.form
  have HO1 := hid ho1; clear ho1
  obtain ⟨m, hm⟩ : ∃ m, s.length = m := ⟨_, rfl⟩
  rw [hm] at HO1 hc1 hlen ⊢
  have HM := hid hm
  clear hm
  unfold maxLen at hc2
  go_wp2_with fail
  refine (picked b 9007199254740992 w1 (by omega) hb hb1 (by omega)).mono ?_
  rintro e w1 ⟨rfl, rfl⟩
  have hpk := pk_lt b 9007199254740992 (by omega)
  generalize pk b 9007199254740992 = d at *
  have hd1 : d ≤ 9007199254740992 := by omega
  clear hpk
  go_wp2
  go_loopw [9, 10] (fun o i wr => ∃ k : Nat, k ≤ m ∧ i = .int .i64 k ∧ Ow w1 wr 26 2 gP o (shl (d : Int) (s.take k))) (fun _ i _ => m - (intOf i).toNat)
  case atStart => exact ⟨0, Nat.zero_le _, rfl, Ow.nil _ _ _ _⟩
  case round =>
    obtain ⟨k, hk, rfl, ho⟩ := hrel
    have HO := hid ho; clear ho
    by_cases hlt : k < m
    · obtain ⟨ad, x, rfl, hxk, c0, c2⟩ := (HO1.out.step HO.out.below).sl.atS hlt
      have HTK := hid (show shl (d : Int) (s.take (k + 1)) = shl (d : Int) (s.take k) ++ [(x.1 + d, x.2)] by rw [take_next hxk, shl_snoc])
      have hxb := HSI.out.bd x (List.mem_of_getElem? hxk)
      have hyl0 : (shl (d : Int) (s.take k)).length = k := by rw [shl_len, List.length_take, HM.out]; omega
      obtain ⟨y0, hy0⟩ : ∃ y, shl (d : Int) (s.take k) = y := ⟨_, rfl⟩
      rw [hy0] at HTK hyl0 HO
      obtain ⟨y, hy⟩ : ∃ y, y0 ++ [(x.1 + d, x.2)] = y := ⟨_, rfl⟩
      have hyl : y.length = k + 1 := by rw [← hy, List.length_append, hyl0]; rfl
      have HY := hid hy
      rw [hy] at HTK
      obtain ⟨xt, xv⟩ := x
      simp only at c0 c2 hxb HY
      have i1 : (k : Int) < (m : Int) := by omega
      have e1 : IntKind.i64.wrap (xt + (d : Int)) = xt + (d : Int) := IntWalk.i64_in _ (by omega)
      have e2 : wrap64 (xt + (d : Int)) = xt + (d : Int) := IntWalk.wrap64_in _ ⟨by omega, by omega⟩
      clear hxk hy hy0 hxb
      go_wp2_with fail
      go_region_law (refine step_appY elmP gP_one rfl (.tmp 28) (.tmp 42) rfl u9 y0 rfl (HO.out.drew.alloc _) [(xt + d, xv)] y HY rfl (Sl.fresh _ #[.int .i64 (xt + d), .int .i64 xv] 26 2 1 rfl) rfl (by simp only [maxLen]; omega) (by omega) ?_; intro A4 c4 w4 hc4 hc5 HN1 _)
      all_goals
        go_wp2
        go_roundw
        case rel => exact ⟨k + 1, by omega, by go_num, by rw [HTK.out]; have h9 := HN1.out; rw [hyl] at h9; exact h9⟩
        case measure => simp [intOf]; omega
    · obtain rfl : k = m := by omega
      have i1 : ¬ (k : Int) < (k : Int) := by omega
      have E := hid (show s.take k = s from List.take_of_length_le (by rw [HM.out]; exact Nat.le_refl _))
      rw [E.out] at HO
      have hsl : (shl (d : Int) s).length = k := by rw [shl_len, HM.out]
      have HS2 := hid (shl_ok (d : Int) s HSI.out (by omega) (by omega))
      have HS1 := hid HSI.out.ok'
      obtain ⟨p1, p2⟩ := ck_shift (d : Int) s
      obtain ⟨q1, q2⟩ := ckGo_len s
      obtain ⟨q3, q4⟩ := ckGo_len (shl (d : Int) s)
      have HDB := hid (cdec_back (shl (d : Int) s) HS2.out (by rw [hsl]; omega))
      obtain ⟨s2, hs2⟩ : ∃ s2, shl (d : Int) s = s2 := ⟨_, rfl⟩
      rw [hs2] at HO hsl HS2 p1 p2 q3 q4 HDB
      clear hs2 E
      obtain ⟨A2, c2, rfl, hc3, hc4⟩ := HO.out.form
      rw [hsl] at HO hc3 q4 ⊢
      have HM2 := hid hsl; clear hsl
      have HO1r := hid (HO1.out.step HO.out.below)
      go_wp2_with fail
      refine (ck_encode A1 k c1 s wr (by omega) HO1r.out.sl HS1.out (HT.out.below (bgo HO1.out.below HO.out.below))).mono ?_
      rintro e w3 ⟨v3, rfl, ho3⟩
      obtain ⟨L1, hL1⟩ : ∃ L, (pack (ckGo s).2).length = L := ⟨_, rfl⟩
      obtain ⟨A3, c3, rfl, hc5, hc6⟩ := ho3.form
      rw [hL1] at hc5 p1 p2 q1 q2 ⊢
      have HB3 := hid ho3.below
      clear ho3 hL1
      have HO3 := hid (HO.out.step HB3.out)
      go_wp2_with fail
      refine (ck_encode A2 k c2 s2 w3 (by omega) HO3.out.sl HS2.out (HT.out.below (bgo HO1.out.below (bgo HO.out.below HB3.out)))).mono ?_
      rintro e w4 ⟨v4, rfl, ho4⟩
      obtain ⟨P2, hP2⟩ : ∃ P, pack (ckGo s2).2 = P := ⟨_, rfl⟩
      rw [hP2] at ho4 HDB p1 p2 q3 q4
      obtain ⟨A4, c4, rfl, hc7, hc8⟩ := ho4.form
      have HO4 := hid ho4; clear ho4 hP2
      obtain ⟨L2, hL2⟩ : ∃ L, P2.length = L := ⟨_, rfl⟩
      rw [hL2] at hc7 p1 p2 q3 q4 HO4 ⊢
      clear hL2
      go_wp2_with fail
      refine (ck_decode A4 L2 c4 P2 w4 (by omega) HO4.out.sl (HT.out.below (bgo HO1.out.below (bgo HO.out.below (bgo HB3.out HO4.out.below))))).mono ?_
      rw [HDB.out]
      rintro e w5 ⟨v5, rfl, ho5⟩
      obtain ⟨A5, c5, rfl, hc9, hc10⟩ := ho5.form
      rw [HM2.out] at hc9 ho5 ⊢
      have HO5 := hid ho5; clear ho5
      have HO25 := hid (HO3.out.step (bgo HO4.out.below HO5.out.below))
      have d1 : (0 : Int) < (L1 : Int) := by omega
      have d2 : (L1 : Int) ≤ (L2 : Int) + 8 := by omega
      have d3 : (L2 : Int) ≤ (L1 : Int) + 8 := by omega
      have e1 : decide ((0 : Int) < (L1 : Int)) = true := decide_eq_true d1
      have e2 : decide ((L1 : Int) ≤ (L2 : Int) + 8) = true := decide_eq_true d2
      have e3 : decide ((L2 : Int) ≤ (L1 : Int) + 8) = true := decide_eq_true d3
      go_wp2_with fail
      refine (same_samples A5 A2 k _ _ s2 w5 (by omega) HO5.out.sl HO25.out.sl).mono ?_
      rintro e w6 ⟨rfl, hb6⟩
      have HB6 := hid (bgo HO1.out.below (bgo HO.out.below (bgo HB3.out (bgo HO4.out.below (bgo HO5.out.below hb6))))); clear hb6
      go_wp2
      go_ret
      exact ⟨rfl, HB6.out⟩
def sq (d v : Int) : Int → Nat → List (Int × Int)
  | _, 0 => []
  | t, m + 1 => (t, v) :: sq d v (t + d) m
theorem sq_len (d v : Int) : ∀ (m : Nat) (t : Int), (sq d v t m).length = m
  | 0, _ => rfl
  | m + 1, t => by rw [sq, List.length_cons, sq_len d v m]
theorem sq_snoc (d v : Int) : ∀ (m : Nat) (t : Int), sq d v t (m + 1) = sq d v t m ++ [(t + d * m, v)]
  | 0, t => by simp [sq]
  | m + 1, t => by
    rw [sq, sq_snoc d v m (t + d), sq, List.cons_append]
    congr 3
    rw [Int.add_assoc]; congr 2
    rw [show ((m + 1 : Nat) : Int) = (m : Int) + 1 by omega, Int.mul_add, Int.mul_one, Int.add_comm]
theorem sq_take (d v : Int) : ∀ (m : Nat) (t : Int) (k : Nat), k ≤ m → (sq d v t m).take k = sq d v t k
  | m, t, 0, _ => by simp [sq]
  | m + 1, t, k + 1, h => by rw [sq, sq, List.take_succ_cons, sq_take d v m (t + d) k (by omega)]
theorem sq_at (d v : Int) : ∀ (m : Nat) (t : Int) (k : Nat) (x : Int × Int), (sq d v t m)[k]? = some x → x = (t + d * k, v)
  | 0, _, k, x, h => by simp [sq] at h
  | m + 1, t, 0, x, h => by simp [sq] at h; rw [← h]; simp
  | m + 1, t, k + 1, x, h => by
    rw [sq, List.getElem?_cons_succ] at h
    rw [sq_at d v m (t + d) k x h]
    congr 1
    rw [show ((k + 1 : Nat) : Int) = (k : Int) + 1 by omega, Int.mul_add, Int.mul_one]; omega
theorem cenc_sq (d v : Int) : ∀ (m : Nat) (t : Int) (c : Nat), (cenc ⟨t, v, d, c + 1⟩ (sq d v (t + d) m)).length = 2 * m
  | 0, _, _ => rfl
  | m + 1, t, c => by
    have e1 : CkSt.codes ⟨t, v, d, c + 1⟩ (t + d, v) = (0, 0) := by
      unfold CkSt.codes
      rw [if_neg (by simp)]
      exact Prod.ext (by simp only; omega) (by simp only; omega)
    have e2 : CkSt.next ⟨t, v, d, c + 1⟩ (t + d, v) = ⟨t + d, v, d, c + 1 + 1⟩ := by
      unfold CkSt.next
      simp only [Nat.succ_pos, if_true]
      congr 1; omega
    rw [sq]
    show (zcode (CkSt.codes ⟨t, v, d, c + 1⟩ (t + d, v)).1 ++ (zcode (CkSt.codes ⟨t, v, d, c + 1⟩ (t + d, v)).2 ++ cenc (CkSt.next ⟨t, v, d, c + 1⟩ (t + d, v)) (sq d v (t + d + d) m))).length = _
    rw [e1, e2, List.length_append, List.length_append, cenc_sq d v m (t + d) (c + 1), show (zcode 0).length = 1 by decide]
    omega
theorem ck_steady (t d v : Int) (m : Nat) : 1 ≤ (pack (ckGo (sq d v t (min 2 m))).2).length ∧ (pack (ckGo (sq d v t (min 2 m))).2).length ≤ 33 ∧
    (pack (ckGo (sq d v t m)).2).length ≤ (pack (ckGo (sq d v t (min 2 m))).2).length + (m - 2 + 3) / 4 := by
  refine ⟨(ckGo_len _).1, by have := (ckGo_len (sq d v t (min 2 m))).2; rw [sq_len] at this; omega, ?_⟩
  match m with
  | 0 => exact Nat.le_add_right _ _
  | 1 => exact Nat.le_add_right _ _
  | m + 2 =>
    rw [Nat.min_eq_left (by omega), pack_len, pack_len, ckGo_enc, ckGo_enc, List.length_append, List.length_append, bitsOf_len, bitsOf_len]
    have e : ∀ l, cenc ⟨0, 0, 0, 0⟩ ((t, v) :: (t + d, v) :: l) = (zcode t ++ (zcode v ++ (zcode (t + d - t - 0) ++ zcode (v - v)))) ++ cenc ⟨t + d, v, d, 1 + 1⟩ l := by
      intro l
      show zcode t ++ (zcode v ++ (zcode (CkSt.codes ⟨t, v, 0, 1⟩ (t + d, v)).1 ++ (zcode (CkSt.codes ⟨t, v, 0, 1⟩ (t + d, v)).2 ++ cenc (CkSt.next ⟨t, v, 0, 1⟩ (t + d, v)) l))) = _
      have e1 : CkSt.codes ⟨t, v, 0, 1⟩ (t + d, v) = (t + d - t - 0, v - v) := rfl
      have e2 : CkSt.next ⟨t, v, 0, 1⟩ (t + d, v) = ⟨t + d, v, d, 1 + 1⟩ := by
        unfold CkSt.next
        simp only [Nat.succ_pos, if_true]
        congr 1; omega
      rw [e1, e2]
      simp only [List.append_assoc]
    have e3 : sq d v t (m + 2) = (t, v) :: (t + d, v) :: sq d v (t + d + d) m := rfl
    have e4 : sq d v t 2 = (t, v) :: (t + d, v) :: [] := rfl
    rw [e3, e4, e, e]
    generalize (zcode t ++ (zcode v ++ (zcode (t + d - t - 0) ++ zcode (v - v)))) = XX
    rw [List.length_append, List.length_append, cenc_sq d v m (t + d) 1]
    generalize XX.length = X
    show (8 + (X + 2 * m) + 7) / 8 ≤ (8 + (X + 0) + 7) / 8 + (m + 2 - 2 + 3) / 4
    omega
theorem sq_ok (t d v : Int) (m : Nat) (h0 : -18014398509481984 ≤ t) (hd : 1 ≤ d) (h1 : ∀ k, k < m → t + d * k ≤ 18014398509481984) (hv : -18014398509481984 ≤ v ∧ v ≤ 18014398509481984) : SmpsOk (sq d v t m) := by
  refine ⟨fun x hx => ?_, fun k x y hx hy => ?_⟩
  · obtain ⟨k, hk, rfl⟩ := List.getElem_of_mem hx
    have e := sq_at d v m t k _ (List.getElem?_eq_getElem hk)
    rw [sq_len] at hk
    have h2 := h1 k hk
    have h3 : 0 ≤ d * (k : Int) := Int.mul_nonneg (by omega) (by omega)
    rw [e]; unfold SmpOk; simp only; omega
  · rw [sq_at d v m t k x hx, sq_at d v m t (k + 1) y hy]
    simp only
    rw [show ((k + 1 : Nat) : Int) = (k : Int) + 1 by omega, Int.mul_add]; omega
set_option maxRecDepth 100000 in
set_option maxHeartbeats 1000000 in
theorem law_chunkSteady (a b c f : Int) (w : World) (ha : -9223372036854775808 ≤ a) (ha1 : a ≤ 9223372036854775807) (hb : -9223372036854775808 ≤ b) (hb1 : b ≤ 9223372036854775807) (hc : -9223372036854775808 ≤ c) (hc1 : c ≤ 9223372036854775807) (hf : -9223372036854775808 ≤ f) (hf1 : f ≤ 9223372036854775807) (ht : ZTab w) :
    Calls Tryd.prog 3 #[.int .i64 a, .int .i64 b, .int .i64 c, .int .i64 f] w fun e w' => e = .returned (.bool true) ∧ Below w.heap.size w w' := by
  have HT := hid ht; clear ht
  go_enter Tryd.func3, Tryd.ntmps3
  go_wp2_with fail
  refine (picked f 121 w (by omega) hf hf1 (by omega)).mono ?_
  rintro e w ⟨rfl, rfl⟩
  have hpk := pk_lt f 121 (by omega)
  generalize pk f 121 = n at *
  have hn : n ≤ 120 := by omega
  clear hpk
  go_wp2_with fail
  refine (picked b 1099511627776 w (by omega) hb hb1 (by omega)).mono ?_
  rintro e w ⟨rfl, rfl⟩
  have hpk := pk_lt b 1099511627776 (by omega)
  generalize pk b 1099511627776 = d0 at *
  have hd0 : d0 < 1099511627776 := by omega
  clear hpk
  have hfa : -18014398509481984 ≤ a / 512 := by omega
  have hfb : a / 512 ≤ 18014398509481983 := by omega
  have hva : -18014398509481984 ≤ c / 512 := by omega
  have hvb : c / 512 ≤ 18014398509481983 := by omega
  obtain ⟨d, hd⟩ : ∃ d : Int, 1 + (d0 : Int) = d := ⟨_, rfl⟩
  have hd1 : 1 ≤ d := by omega
  have hd2 : d ≤ 1099511627776 := by omega
  obtain ⟨t0, ht0⟩ : ∃ t : Int, a / 512 = t := ⟨_, rfl⟩
  obtain ⟨v0, hv0⟩ : ∃ t : Int, c / 512 = t := ⟨_, rfl⟩
  rw [ht0] at hfa hfb
  rw [hv0] at hva hvb
  have HD := hid hd; have HT0 := hid ht0; have HV0 := hid hv0
  clear hd ht0 hv0
  have hddd : wrap64 (1 + (d0 : Int)) = 1 + (d0 : Int) := IntWalk.wrap64_in _ ⟨by omega, by omega⟩
  go_wp2
  go_loopw [10, 12, 13] (fun t o i wr => ∃ (k : Nat) (T : Int), k ≤ n ∧ i = .int .i64 k ∧ t = .int .i64 T ∧ Hid (T = t0 + d * k) ∧ T ≤ 18015498021109760 ∧ -18014398509481984 ≤ T ∧ Hid (∀ j : Nat, j < k → t0 + d * j ≤ 18014398509481984) ∧ Ow w wr 26 2 gP o (sq d v0 t0 k)) (fun _ _ i _ => n - (intOf i).toNat)
  case atStart => exact ⟨0, t0, Nat.zero_le _, rfl, by rw [HT0.out], hid (by simp), by omega, by omega, hid (by omega), Ow.nil _ _ _ _⟩
  case round =>
    obtain ⟨k, T, hk, rfl, rfl, HTT, hT1, hT2, HJ, ho⟩ := hrel
    have HO := hid ho; clear ho
    have hsl : (sq d v0 t0 k).length = k := sq_len _ _ _ _
    by_cases hgo : k < n ∧ T ≤ 18014398509481984
    · obtain ⟨hlt, hT⟩ := hgo
      have HS := hid (show sq d v0 t0 (k + 1) = sq d v0 t0 k ++ [(T, v0)] by rw [sq_snoc, HTT.out])
      have HJ2 := hid (show ∀ j : Nat, j < k + 1 → t0 + d * j ≤ 18014398509481984 from fun j hj => by
        by_cases h : j < k
        · exact HJ.out j h
        · obtain rfl : j = k := by omega
          rw [← HTT.out]; exact hT)
      have HT3 := hid (show T + (1 + (d0 : Int)) = t0 + d * ((k + 1 : Nat) : Int) by
        rw [HD.out, HTT.out, show ((k + 1 : Nat) : Int) = (k : Int) + 1 by omega, Int.mul_add]; omega)
      have hT4 : T + (1 + (d0 : Int)) ≤ 18015498021109760 := by omega
      have hT5 : -18014398509481984 ≤ T + (1 + (d0 : Int)) := by omega
      have i1 : (k : Int) < (n : Int) := by omega
      have i3 : ¬ (18014398509481984 : Int) < T := by omega
      have e1 : IntKind.i64.wrap (T + (1 + (d0 : Int))) = T + (1 + (d0 : Int)) := IntWalk.i64_in _ (by omega)
      have e2 : wrap64 (T + (1 + (d0 : Int))) = T + (1 + (d0 : Int)) := IntWalk.wrap64_in _ ⟨by omega, by omega⟩
      obtain ⟨y0, hy0⟩ : ∃ y, sq d v0 t0 k = y := ⟨_, rfl⟩
      rw [hy0] at HS hsl HO
      obtain ⟨y, hy⟩ : ∃ y, y0 ++ [(T, v0)] = y := ⟨_, rfl⟩
      have hyl : y.length = k + 1 := by rw [← hy, List.length_append, hsl]; rfl
      have HY := hid hy
      rw [hy] at HS
      clear hy hy0 HTT HJ
      go_wp2_with (at_builtin; refine wpList_appY elmP gP_one rfl (.tmp 32) (.tmp 37) rfl u12 y0 rfl (HO.out.alloc _) [(T, v0)] y HY rfl (by rw [← HV0.out]; exact Sl.fresh wr #[.int .i64 T, .int .i64 (c / 512)] 26 2 1 rfl) rfl (by simp only [maxLen]; omega) (by omega) ?_; intro A4 c4 w4 hc4 hc5 HN1 _ _)
      go_roundw
      case rel => exact ⟨k + 1, T + (1 + (d0 : Int)), by omega, by go_num, rfl, HT3, hT4, hT5, HJ2, by rw [HS.out]; have h9 := HN1.out; rw [hyl] at h9; exact h9⟩
      case measure => simp [intOf]; omega
    · have hend : k = n ∨ (k < n ∧ 18014398509481984 < T) := by omega
      have HSO := hid (sq_ok t0 d v0 k hfa hd1 HJ.out ⟨hva, by omega⟩)
      obtain ⟨A1, c1, rfl, hc1', hc2'⟩ := HO.out.form
      obtain ⟨q1, q2, q3⟩ := ck_steady t0 d v0 k
      rw [hsl] at HO hc1' ⊢
      obtain ⟨j, hj⟩ : ∃ j, min 2 k = j := ⟨_, rfl⟩
      have HTAK := hid (show (sq d v0 t0 k).take j = sq d v0 t0 j from sq_take d v0 k t0 j (by omega))
      have HSO2 : Hid (SmpsOk (sq d v0 t0 j)) := hid (sq_ok t0 d v0 j hfa hd1 (fun i hi => HJ.out i (by omega)) ⟨hva, by omega⟩)
      rw [hj] at q1 q2 q3
      have hk120 : k ≤ 120 := by omega
      have hj2 : j ≤ 2 := by omega
      have hjk : j ≤ k := by omega
      have HJM := hid hj
      clear hj HTT HJ hgo
      have hjl : (sq d v0 t0 j).length = j := sq_len _ _ _ _
      obtain ⟨s, hs⟩ : ∃ s, sq d v0 t0 k = s := ⟨_, rfl⟩
      obtain ⟨s2, hs2⟩ : ∃ s, sq d v0 t0 j = s := ⟨_, rfl⟩
      rw [hs] at HTAK HSO HO hsl q3
      rw [hs2] at HTAK HSO2 hjl q1 q2 q3
      clear hs hs2
      unfold maxLen at hc2'
      rcases hend with rfl | ⟨hlt, hgt⟩
      all_goals
        go_wp2_with fail
        refine (ck_encode A1 k c1 s wr (by omega) HO.out.sl HSO.out (HT.out.below HO.out.below)).mono ?_
        rintro e w3 ⟨v3, rfl, ho3⟩
        obtain ⟨A3, c3, rfl, hc5, hc6⟩ := ho3.form
        obtain ⟨L1, hL1⟩ : ∃ L, (pack (ckGo s).2).length = L := ⟨_, rfl⟩
        rw [hL1] at q3 hc5 ⊢
        have HB3 := hid ho3.below
        clear ho3 hL1
        have HP := hid (((HO.out.step HB3.out).sl).preG (k := j) (g := gP) (fun _ => rfl) hjk)
        rw [HTAK.out] at HP
        by_cases hk2 : k < 2
        · obtain rfl : j = k := by have := HJM.out; omega
          go_wp2_with fail
          refine (ck_encode A1 j c1 s2 w3 (by omega) HP.out HSO2.out (HT.out.below (bgo HO.out.below HB3.out))).mono ?_
          rintro e w4 ⟨v4, rfl, ho4⟩
          obtain ⟨A4, c4, rfl, hc7, hc8⟩ := ho4.form
          obtain ⟨L2, hL2⟩ : ∃ L, (pack (ckGo s2).2).length = L := ⟨_, rfl⟩
          rw [hL2] at q1 q2 q3 hc7 ⊢
          have HB4 := hid (bgo HO.out.below (bgo HB3.out ho4.below))
          clear ho4 hL2
          have f1 : (0 : Int) < (L2 : Int) := by omega
          have f2 : (L2 : Int) ≤ 33 := by omega
          have f3 : decide ((0 : Int) < (L2 : Int)) = true := decide_eq_true f1
          have f4 : decide ((L2 : Int) ≤ 33) = true := decide_eq_true f2
          have f7 : 0 < L2 := by omega
          have f8 : L2 ≤ 33 := by omega
          go_wp2
          all_goals
            go_ret
            refine ⟨?_, HB4.out⟩
            show Ending.returned (.bool _) = _
            congr 2
            simp
            omega
        · obtain rfl : j = 2 := by have := HJM.out; omega
          go_wp2_with fail
          refine (ck_encode A1 2 c1 s2 w3 (by omega) HP.out HSO2.out (HT.out.below (bgo HO.out.below HB3.out))).mono ?_
          rintro e w4 ⟨v4, rfl, ho4⟩
          obtain ⟨A4, c4, rfl, hc7, hc8⟩ := ho4.form
          obtain ⟨L2, hL2⟩ : ∃ L, (pack (ckGo s2).2).length = L := ⟨_, rfl⟩
          rw [hL2] at q1 q2 q3 hc7 ⊢
          have HB4 := hid (bgo HO.out.below (bgo HB3.out ho4.below))
          clear ho4 hL2
          have f1 : (0 : Int) < (L2 : Int) := by omega
          have f2 : (L2 : Int) ≤ 33 := by omega
          have f3 : decide ((0 : Int) < (L2 : Int)) = true := decide_eq_true f1
          have f4 : decide ((L2 : Int) ≤ 33) = true := decide_eq_true f2
          have f7 : 0 < L2 := by omega
          have f8 : L2 ≤ 33 := by omega
          go_wp2
          all_goals
            go_ret
            refine ⟨?_, HB4.out⟩
            show Ending.returned (.bool _) = _
            congr 2
            simp
            omega
end Go.Proofs.YtpoaomjpbjcmbaaDoor
