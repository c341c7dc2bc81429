/-
  The laws of package adler: AdlerParts, AdlerSlid, AdlerSees: their walks.
-/
import Derived.Test.YtejpcibcllnheaaAdler
namespace Go.Proofs.Ytejpcibcllnheaa
open Go.RowKit
set_option linter.unusedVariables false

theorem adlOf_append (x y : List UInt8) : adlSum (adlWith (adlWith (1, 0) x) y) = adlOf (x ++ y) := by rw [← adlWith_append]; rfl

set_option maxHeartbeats 1000000 in
theorem law_adlerParts (A : Option Addr) (n c : Nat) (x0 : List UInt8) (B : Option Addr) (m d : Nat) (y0 : List UInt8) (w : World) (hn : n ≤ c) (hc : c ≤ maxLen) (_ : c * 1 ≤ 140737488351232) (hx : Sl w 1 A n (byts x0)) (hm : m ≤ d) (hd : d ≤ maxLen) (_ : d * 1 ≤ 140737488351232) (hy : Sl w 1 B m (byts y0)) :
    Calls Try.prog 6 #[.slice A n c, .slice B m d] w fun e w' => e = .returned (.bool true) ∧ Below w.heap.size w w' := by
  have HX := hid hx; clear hx
  have HY := hid hy; clear hy
  have E1 : (adlOf [] == 1) = true := by decide
  go_enter Try.func6, Try.ntmps6
  go_wp2_with fail
  refine (octets A n c 1000 x0 w hn hc (by omega) HX.out).mono ?_
  rintro e w1 ⟨v1, rfl, ho1⟩
  obtain ⟨A1, c1, rfl, hn1, hc1⟩ := ho1.form
  have HO1 := hid ho1; clear ho1
  have hl1 : (x0.take 1000).length ≤ 1000 := by rw [List.length_take]; omega
  generalize hx : x0.take 1000 = x at *
  go_wp2_with fail
  refine (octets B m d 1000 y0 w1 hm hd (by omega) (HY.out.below HO1.out.below)).mono ?_
  rintro e w2 ⟨v2, rfl, ho2⟩
  obtain ⟨A2, c2, rfl, hn2, hc2⟩ := ho2.form
  have HO2 := hid ho2; clear ho2
  have hl2 : (y0.take 1000).length ≤ 1000 := by rw [List.length_take]; omega
  generalize hy : y0.take 1000 = y at *
  have HX2 := hid (HO1.out.step HO2.out.below)
  have E2 := hid (adlOf_append x y)
  go_wp2_with fail
  refine (adl_of _ _ _ x w2 (by omega) HX2.out.sl).mono ?_
  rintro e w3 ⟨rfl, hb3⟩
  have HB3 := hid hb3; clear hb3
  go_wp2_with fail
  refine (adl_more _ (adlWith (1, 0) x).1 (adlWith (1, 0) x).2 _ _ _ y w3 (by omega) (HO2.out.step HB3.out).sl (adlWith_ok _ adl_one_ok x) rfl).mono ?_
  rintro e w4 ⟨rfl, hb4⟩
  have HB4 := hid (bgo HB3.out hb4); clear hb4
  go_wp2_with fail
  refine (adl_of _ _ _ [] w4 (by omega) (Sl.nil _)).mono ?_
  rintro e w5 ⟨rfl, hb5⟩
  have HB5 := hid (bgo HB4.out hb5); clear hb5
  have HX5 := hid (HX2.out.step HB5.out)
  have HY5 := hid (HO2.out.step HB5.out)
  go_wp2_with (first
    | (at_builtin; refine wpList_appG elmB gB_one rfl (.const (.slice none 0 0)) (.tmp 28) rfl (.slice none 0 0) [] rfl (Ow.nil' HX5.out.below _ _ _) x rfl HX5.out.sl rfl (by simp only [maxLen, List.length_nil]; omega) (by simp only [List.length_nil]; omega) ?_; intro v6 w6 hown6 hg6 hat6; have HO6 := hid hown6; clear hown6; have HB6 := hid (grown_nil hg6); clear hg6 hat6)
    | (at_builtin; refine wpList_appG elmB gB_one rfl (.tmp 29) (.tmp 30) rfl v6 ([] ++ x) rfl HO6.out y rfl (HY5.out.step HB6.out).sl rfl (by simp only [maxLen, List.nil_append]; omega) (by simp only [List.nil_append]; omega) ?_; intro v7 w7 hown7 hg7 hat7))
  obtain ⟨A7, c7, rfl, hn7, hc7⟩ := hown7.form
  have HO7 := hid hown7; clear hown7 hg7 hat7
  refine (adl_of A7 _ c7 (x ++ y) w7 (by simp; omega) HO7.out.sl).mono ?_
  rintro e w8 ⟨rfl, hb8⟩
  have E3 : (adlSum (adlWith (adlWith (1, 0) x) y) == adlOf (x ++ y)) = true := by rw [E2.out]; simp
  have HB8 := hid (bgo HO7.out.below hb8); clear hb8
  go_wp2
  go_ret
  exact ⟨rfl, HB8.out⟩

theorem window_slide (y : List UInt8) (k r : Nat) (o i : UInt8) (ho : y[k]? = some o) (hi : y[k + (1 + r)]? = some i) :
    adlSum (adlSlide (adlWith (1, 0) ((y.drop k).take (1 + r))) (1 + (r : Int)) (o.toNat : Int) (i.toNat : Int)) = adlOf ((y.drop (k + 1)).take (1 + r)) := by
  have hl : k + (1 + r) < y.length := (List.getElem?_eq_some_iff.1 hi).1
  have e1 : y.drop k = o :: y.drop (k + 1) := by
    rw [List.drop_eq_getElem_cons (by omega)]; congr 1
    have := (List.getElem?_eq_some_iff.1 ho).2; exact this
  have e2 : (y.drop (k + 1)).take (1 + r) = (y.drop (k + 1)).take r ++ [i] := by
    rw [Nat.add_comm 1 r]
    exact take_next (by rw [List.getElem?_drop]; rw [← hi]; congr 1; omega)
  rw [e1, Nat.add_comm 1 r, List.take_succ_cons, adl_slides _ _ _ _ (by rw [List.length_take, List.length_drop]; omega), ← e2, Nat.add_comm r 1]
  rfl
set_option maxHeartbeats 1000000 in
set_option maxRecDepth 100000 in
theorem law_adlerSlid (A : Option Addr) (n c : Nat) (x0 : List UInt8) (a : Int) (w : World) (hn : n ≤ c) (hc : c ≤ maxLen) (_ : c * 1 ≤ 140737488351232) (hx : Sl w 1 A n (byts x0)) (ha : -9223372036854775808 ≤ a) (ha1 : a ≤ 9223372036854775807) :
    Calls Try.prog 7 #[.slice A n c, .int .i64 a] w fun e w' => e = .returned (.bool true) ∧ Below w.heap.size w w' := by
  have HX := hid hx; clear hx
  have E1 : (adlOf [1] == 131074) = true := by decide
  go_enter Try.func7, Try.ntmps7
  go_wp2_with fail
  refine (octets A n c 300 x0 w hn hc (by omega) HX.out).mono ?_
  rintro e w1 ⟨v1, rfl, ho1⟩
  have HO1 := hid ho1; clear ho1
  have hl1 : (x0.take 300).length ≤ 300 := by rw [List.length_take]; omega
  generalize hx : x0.take 300 = x at *
  obtain ⟨y, hy⟩ : ∃ y, x ++ [7, 9] = y := ⟨_, rfl⟩
  have hy1 : y.length = x.length + 2 := by rw [← hy]; simp
  have hy2 : 2 ≤ y.length := by omega
  have hy3 : y.length ≤ 302 := by omega
  have HY := hid hy; clear hy hy1
  go_wp2_with (at_builtin; refine wpList_appY elmB gB_one rfl (.tmp 12) (.tmp 13) rfl v1 x rfl (HO1.out.alloc _) [7, 9] y HY rfl (Sl.fresh w1 #[.int .u8 7, .int .u8 9] 5 1 2 rfl) rfl (by simp only [maxLen]; omega) (by omega) ?_; intro A2 c2 w2 hn2 hc2 HO2 _ _)
  refine (picked a _ w2 (by omega) ha ha1 (by omega)).mono ?_
  rintro e w2 ⟨rfl, rfl⟩
  have hr := pk_lt a ((y.length : Int) - 1) (by omega)
  generalize pk a ((y.length : Int) - 1) = r at *
  go_wp2_with fail
  refine (adl_of A2 _ c2 (y.take (1 + r)) w2 (by omega) (HO2.out.sl.preB (by omega))).mono ?_
  rintro e w3 ⟨rfl, hb3⟩
  have HO3 := hid (HO2.out.step hb3); clear hb3
  go_wp2_with fail
  go_loopw [7, 8] (fun s i wr => ∃ k : Nat, k + (1 + r) ≤ y.length ∧ i = .int .i64 k ∧ s = .int .i64 (adlOf ((y.drop k).take (1 + r))) ∧ Ow w wr 5 1 gB (.slice A2 y.length c2) y) (fun _ i _ => y.length - (intOf i).toNat)
  case atStart => exact ⟨0, by omega, rfl, rfl, HO3.out⟩
  case round =>
    obtain ⟨k, hk, rfl, rfl, hO⟩ := hrel
    have HO := hid hO; clear hO
    by_cases hlt : k + (1 + r) < y.length
    · obtain ⟨ad, o, rfl, ho, hc0⟩ := HO.out.sl.at_ (k := k) (by omega)
      obtain ⟨ad', i, hA, hi, hc1⟩ := HO.out.sl.at_ (k := k + (1 + r)) (by omega)
      obtain rfl : ad = ad' := by injection hA
      clear hA
      have hx0 := byte_ge o
      have hx1 := byte_lt o
      have hz0 := byte_ge i
      have hz1 := byte_lt i
      have HW := hid (window_slide y k r o i ho hi)
      have HO_ := hid ho; have HI_ := hid hi; clear ho hi
      have i1 : (0 : Int) ≤ (k : Int) + (1 + (r : Int)) := by omega
      have i2 : (k : Int) + (1 + (r : Int)) < (y.length : Int) := by omega
      have i3 : ((k : Int) + (1 + (r : Int))).toNat = k + (1 + r) := by omega
      have i4 : (k : Int) < (y.length : Int) := by omega
      have i5 : IntKind.i64.wrap ((k : Int) + (1 + (r : Int))) = (k : Int) + (1 + (r : Int)) := IntWalk.i64_in _ (by omega)
      go_wp2_with fail
      go_region_held3 (fun w' => w'.cell? (ad.add k) = some (.int .u8 (o.toNat : Int)) ∧ w'.cell? (ad.add (k + (1 + r))) = some (.int .u8 (i.toNat : Int))) (first | exact ⟨hc0, hc1⟩ | exact ⟨cell_below hb4 hc0, cell_below hb4 hc1⟩) ((go_at_call 21; refine (adl_slide _ (adlWith (1, 0) ((y.drop k).take (1 + r))).1 (adlWith (1, 0) ((y.drop k).take (1 + r))).2 _ _ _ _ (adlWith_ok _ adl_one_ok _) rfl (by omega) (by omega) hx0 hx1 hz0 hz1).mono ?_; rintro e w4 ⟨rfl, hb4⟩))
      have HO4 := hid (HO.out.drew.step hb4); clear hb4
      clear hc0 hc1 i5
      have E8 : IntKind.i64.wrap ((k : Int) + 1 + (1 + (r : Int))) = (k : Int) + 1 + (1 + (r : Int)) := IntWalk.i64_in _ (by omega)
      go_wp2_with fail
      refine (adl_of _ (1 + r) _ ((y.drop (k + 1)).take (1 + r)) w4 (by omega) (HO4.out.sl.midB (by omega) (by omega))).mono ?_
      rintro e w5 ⟨rfl, hb5⟩
      have HO5 := hid (HO4.out.step hb5); clear hb5
      have E9 : (adlSum (adlSlide (adlWith (1, 0) ((y.drop k).take (1 + r))) (1 + (r : Int)) (o.toNat : Int) (i.toNat : Int)) != adlOf ((y.drop (k + 1)).take (1 + r))) = false := by rw [HW.out]; simp
      go_wp2
      go_roundw
      case rel => exact ⟨k + 1, by omega, by go_num, by rw [← HW.out], HO5.out⟩
      case measure => simp [intOf]; omega
    · have HO3 := hid HO.out.below
      clear HO
      go_wp2_with fail
      refine (adl_of _ 1 1 [1] _ (by omega) (Sl.fresh wr #[.int .u8 1] 5 1 1 rfl)).mono ?_
      rintro e w5 ⟨rfl, hb5⟩
      have HB5 := hid (bgo (bnew HO3.out _) hb5); clear hb5
      go_wp2
      go_ret
      exact ⟨rfl, HB5.out⟩

set_option maxRecDepth 100000 in
set_option maxHeartbeats 1000000 in
theorem law_adlerSees (A : Option Addr) (n c : Nat) (x0 : List UInt8) (a d : Int) (w : World) (hn : n ≤ c) (hc : c ≤ maxLen) (_ : c * 1 ≤ 140737488351232) (hx : Sl w 1 A n (byts x0)) (ha : -9223372036854775808 ≤ a) (ha1 : a ≤ 9223372036854775807) (hd : 0 ≤ d) (hd1 : d < 256) :
    Calls Try.prog 3 #[.slice A n c, .int .i64 a, .int .u8 d] w fun e w' => e = .returned (.bool true) ∧ Below w.heap.size w w' := by
  obtain ⟨b, rfl⟩ : ∃ b : UInt8, d = (b.toNat : Int) := ⟨UInt8.ofNat d.toNat, by simp; omega⟩
  have HX := hid hx; clear hx hd hd1
  have E1 : (adlOf [1] == 131074) = true := by decide
  go_enter Try.func3, Try.ntmps3
  go_wp2_with fail
  refine (octets A n c 1000 x0 w hn hc (by omega) HX.out).mono ?_
  rintro e w1 ⟨v1, rfl, ho1⟩
  have HO1 := hid ho1; clear ho1
  have hl1 : (x0.take 1000).length ≤ 1000 := by rw [List.length_take]; omega
  generalize x0.take 1000 = x1 at *
  obtain ⟨x, hx⟩ : ∃ x, x1 ++ [1, 2] = x := ⟨_, rfl⟩
  have hy1 : x.length = x1.length + 2 := by rw [← hx]; simp
  have hy2 : 2 ≤ x.length := by omega
  have hy3 : x.length ≤ 1002 := by omega
  have HX1 := hid hx; clear hx hy1
  go_wp2_with (at_builtin; refine wpList_appY elmB gB_one rfl (.tmp 12) (.tmp 13) rfl v1 x1 rfl (HO1.out.alloc _) [1, 2] x HX1 rfl (Sl.fresh w1 #[.int .u8 1, .int .u8 2] 5 1 2 rfl) rfl (by simp only [maxLen]; omega) (by omega) ?_; intro A2 c2 w2 hn2 hc2 HO2 _ _)
  refine (picked a _ w2 (by omega) ha ha1 (by omega)).mono ?_
  rintro e w2 ⟨rfl, rfl⟩
  have hr := pk_lt a ((x.length : Int) - 1) (by omega)
  generalize pk a ((x.length : Int) - 1) = r at *
  obtain ⟨u, hu⟩ : ∃ u, x[r]? = some u := ⟨_, List.getElem?_eq_getElem (by omega)⟩
  obtain ⟨v, hv⟩ : ∃ v, x[r + 1]? = some v := ⟨_, List.getElem?_eq_getElem (by omega)⟩
  have HU := hid hu; have HV := hid hv; clear hu hv
  have EY := hid (adl_sees_byte x r u v (u ^^^ b) HU.out HV.out)
  have EZ := hid (adl_sees_swap x r u v HU.out HV.out)
  have EX := xor_u8 u b
  have EB := hid (xor_self_iff u b)
  generalize u ^^^ b = t at *
  have EYb : Hid ((adlOf (x.set r t) == adlOf x) = ((b.toNat : Int) == 0)) := by
    show _ = _
    rw [EY.out, EB.out, Bool.eq_iff_iff, beq_iff_eq, beq_iff_eq, ← UInt8.toNat_inj]; simp
  have EZb : Hid ((adlOf ((x.set r v).set (r + 1) u) == adlOf x) = ((u.toNat : Int) == (v.toNat : Int))) := by
    show _ = _
    rw [EZ.out, Bool.eq_iff_iff, beq_iff_eq, beq_iff_eq, ← UInt8.toNat_inj]; omega
  obtain ⟨g2, cur2, rfl, _⟩ := HO2.out.row (by omega)
  have ez0 : (0 : Int) ≤ (r : Int) + 1 := by omega
  have ez1 : (r : Int) + 1 < (x.length : Int) := by omega
  have ez2 : (r : Int) < (x.length : Int) := by omega
  have ez3 : ((r : Int) + 1).toNat = r + 1 := by omega
  go_wp2_with (first
    | (at_builtin; refine wpList_appY elmB gB_one rfl (.const (.slice none 0 0)) (.tmp 20) rfl (.slice none 0 0) [] rfl (Ow.nil w2 _ _ _) x x (hid (List.nil_append x)) rfl HO2.out.sl rfl (by simp only [maxLen]; omega) (by omega) ?_; intro A4 c4 w4 hn4 hc4 HO4 _ _; obtain ⟨g4, cur4, rfl, _⟩ := HO4.out.row (by omega); obtain ⟨hc4a, hc4b⟩ := HO4.out.cellB HU.out)
    | (at_builtin; refine wpList_appY elmB gB_one rfl (.const (.slice none 0 0)) (.tmp 29) rfl (.slice none 0 0) [] rfl (Ow.nil _ _ _ _) x x (hid (List.nil_append x)) rfl (HO2.out.step (Ow.below (HO4.out.set (i := r) (by omega) t))).sl rfl (by simp only [maxLen]; omega) (by omega) ?_; intro A6 c6 w6 hn6 hc6 HO6 _ _; obtain ⟨g6, cur6, rfl, _⟩ := HO6.out.row (by omega); clear hc4a hc4b; obtain ⟨hc6a, hc6b⟩ := HO6.out.cellB HU.out; obtain ⟨hc6c, hc6d⟩ := HO6.out.cellB HV.out))
  go_region
  have FZ := hid ((HO6.out.set (i := r) (by omega) v).set (i := r + 1) (by simp; omega) u).drew
  have FY := hid ((HO4.out.set (i := r) (by omega) t).step FZ.out.below)
  have FX := hid (HO2.out.step FY.out.below)
  obtain ⟨hx0, _⟩ := FX.out.cellB HU.out
  obtain ⟨hx1, _⟩ := FX.out.cellB HV.out
  have FO := FX.out.below
  clear hc6a hc6b hc6c hc6d
  generalize World.drew (World.setCell (World.setCell w6 ⟨g6, r, none⟩ (.int .u8 (v.toNat : Int))) ⟨g6, r + 1, none⟩ (.int .u8 (u.toNat : Int))) = W at *
  have EYc := EYb.out
  have EZc := EZb.out
  go_wp2_with fail
  have ez5 : IntKind.i64.wrap ((r : Int) + 1) = (r : Int) + 1 := IntWalk.i64_in _ (by omega)
  go_region_held3 (fun w' => Below W.heap.size W w' ∧ w'.cell? ⟨g2, r, none⟩ = some (.int .u8 (u.toNat : Int)) ∧ w'.cell? ⟨g2, r + 1, none⟩ = some (.int .u8 (v.toNat : Int)))
    ((refine sees2 ?_ hx0 hx1; (repeat (first | exact (‹Below W.heap.size W _ ∧ _ ∧ _›).1 | exact bnil _ | refine bgo' hbk ?_ | refine Below.drew ?_ | refine bnew ?_ _))))
    (first
      | ((with_reducible refine (adl_of _ 1 1 [1] _ (by decide) (Sl.fresh _ #[.int .u8 1] 5 1 1 rfl)).mono ?_); rintro e w9 ⟨rfl, hbk⟩)
      | ((with_reducible refine (adl_of _ _ _ x _ ?_ (FX.out.step ?_).sl).mono ?_); (· omega); (· exact (‹Below W.heap.size W _ ∧ _ ∧ _›).1); rintro e w9 ⟨rfl, hbk⟩)
      | ((with_reducible refine (adl_of _ _ _ (x.set r t) _ ?_ (FY.out.step ?_).sl).mono ?_); (· omega); (· exact (‹Below W.heap.size W _ ∧ _ ∧ _›).1); rintro e w9 ⟨rfl, hbk⟩)
      | ((with_reducible refine (adl_of _ _ _ ((x.set r v).set (r + 1) u) _ ?_ (FZ.out.step ?_).sl).mono ?_); (· omega); (· exact (‹Below W.heap.size W _ ∧ _ ∧ _›).1); rintro e w9 ⟨rfl, hbk⟩))
  go_wp2
  go_ret
  exact ⟨rfl, bgo FO (‹Below W.heap.size W _ ∧ _ ∧ _›).1⟩
end Go.Proofs.Ytejpcibcllnheaa
