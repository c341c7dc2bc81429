/-
  Package rate: pairs with each of its two closures, Rise, Mean: their walks.
-/
import Derived.Test.YtpoaomjpbjcmbaaDoorRate
import Derived.Deep.RegionWith
namespace Go.Proofs.YtpoaomjpbjcmbaaDoor
open Go.RowKit
set_option linter.unusedVariables false

def dRise (a b : Int × Int) : Int := if a.2 ≤ b.2 then b.2 - a.2 else b.2
def dMean (a b : Int × Int) : Int := a.2 * (b.1 - a.1)
/-- the sum of d over neighbours *-/
def prs (d : Int × Int → Int × Int → Int) (l : List (Int × Int)) : Nat → Int
  | 0 => 0
  | k + 1 => prs d l k + d (l.getD k (0, 0)) (l.getD (k + 1) (0, 0))
theorem mul_bd (x y X Y : Int) (h1 : -X ≤ x) (h2 : x ≤ X) (h3 : -Y ≤ y) (h4 : y ≤ Y) : -(X * Y) ≤ x * y ∧ x * y ≤ X * Y := by
  have hX : 0 ≤ X := by omega
  have hY : 0 ≤ Y := by omega
  rcases Int.le_total 0 x with hx | hx <;> rcases Int.le_total 0 y with hy | hy
  · have a1 := Int.mul_le_mul h2 h4 hy hX
    have a2 := Int.mul_nonneg hx hy
    have a3 := Int.mul_nonneg hX hY
    omega
  · have a1 := Int.mul_le_mul h2 (show -y ≤ Y by omega) (by omega) hX
    have a2 := Int.mul_nonneg hx (show 0 ≤ -y by omega)
    have a3 := Int.mul_nonneg hX hY
    rw [Int.mul_neg] at a1 a2
    omega
  · have a1 := Int.mul_le_mul (show -x ≤ X by omega) h4 hy hX
    have a2 := Int.mul_nonneg (show 0 ≤ -x by omega) hy
    have a3 := Int.mul_nonneg hX hY
    rw [Int.neg_mul] at a1 a2
    omega
  · have a1 := Int.mul_le_mul (show -x ≤ X by omega) (show -y ≤ Y by omega) (by omega) hX
    have a2 := Int.mul_nonneg (show 0 ≤ -x by omega) (show 0 ≤ -y by omega)
    have a3 := Int.mul_nonneg hX hY
    rw [Int.neg_mul_neg] at a1 a2
    omega
theorem dMean_bd (a b : Int × Int) (ha : -16777216 ≤ a.1 ∧ a.1 ≤ 16777216 ∧ -16777216 ≤ a.2 ∧ a.2 ≤ 16777216) (hb : -16777216 ≤ b.1 ∧ b.1 ≤ 16777216 ∧ -16777216 ≤ b.2 ∧ b.2 ≤ 16777216) : -562949953421312 ≤ dMean a b ∧ dMean a b ≤ 562949953421312 := by
  have := mul_bd a.2 (b.1 - a.1) 16777216 33554432 (by omega) (by omega) (by omega) (by omega)
  unfold dMean; omega
theorem dRise_bd (a b : Int × Int) (ha : -16777216 ≤ a.1 ∧ a.1 ≤ 16777216 ∧ -16777216 ≤ a.2 ∧ a.2 ≤ 16777216) (hb : -16777216 ≤ b.1 ∧ b.1 ≤ 16777216 ∧ -16777216 ≤ b.2 ∧ b.2 ≤ 16777216) : -562949953421312 ≤ dRise a b ∧ dRise a b ≤ 562949953421312 := by
  unfold dRise; split <;> omega
theorem prs_bd (d : Int × Int → Int × Int → Int) (l : List (Int × Int)) (h : NearIn l) (hd : ∀ a b : Int × Int, (-16777216 ≤ a.1 ∧ a.1 ≤ 16777216 ∧ -16777216 ≤ a.2 ∧ a.2 ≤ 16777216) → (-16777216 ≤ b.1 ∧ b.1 ≤ 16777216 ∧ -16777216 ≤ b.2 ∧ b.2 ≤ 16777216) → -562949953421312 ≤ d a b ∧ d a b ≤ 562949953421312) :
    ∀ k : Nat, k < l.length → -(562949953421312 * (k : Int)) ≤ prs d l k ∧ prs d l k ≤ 562949953421312 * (k : Int)
  | 0, _ => by simp [prs]
  | k + 1, hk => by
    have ih := prs_bd d l h hd k (by omega)
    have e1 : l.getD k (0, 0) = l[k] := by rw [List.getD_eq_getElem?_getD, List.getElem?_eq_getElem (by omega)]; rfl
    have e2 : l.getD (k + 1) (0, 0) = l[k + 1] := by rw [List.getD_eq_getElem?_getD, List.getElem?_eq_getElem hk]; rfl
    have := hd _ _ (h.bd _ (List.getElem_mem (show k < l.length by omega))) (h.bd _ (List.getElem_mem hk))
    unfold prs
    rw [e1, e2]
    have e3 : 562949953421312 * ((k + 1 : Nat) : Int) = 562949953421312 * (k : Int) + 562949953421312 := by omega
    rw [e3]; omega

set_option maxHeartbeats 1000000 in
theorem rise_step (g : Nat) (s : Int) (a b : Int × Int) (w : World) (hk : Blk w g 3 #[.int .i64 s]) (hs : -1000000000000000000 ≤ s ∧ s ≤ 1000000000000000000) (ha : -16777216 ≤ a.1 ∧ a.1 ≤ 16777216 ∧ -16777216 ≤ a.2 ∧ a.2 ≤ 16777216) (hb : -16777216 ≤ b.1 ∧ b.1 ≤ 16777216 ∧ -16777216 ≤ b.2 ∧ b.2 ≤ 16777216) :
    Calls Tryd.prog 45 #[.agg #[.int .i64 a.1, .int .i64 a.2], .agg #[.int .i64 b.1, .int .i64 b.2], .pointer (some ⟨g, 0, none⟩)] w fun e w' => e = .returned (.tuple #[]) ∧ Blk w' g 3 #[.int .i64 (s + dRise a b)] ∧ Chg (fun k => k = g) w w' := by
  obtain ⟨at_, av⟩ := a
  obtain ⟨bt, bv⟩ := b
  simp only at ha hb ⊢
  have k0 : w.cell? ⟨g, 0, none⟩ = some (.int .i64 s) := hk.cell 0
  have f0 := hk.frozen 0
  have hg := hk.lt
  have HK := hid hk; clear hk
  have e1 : IntKind.i64.wrap (s + bv) = s + bv := IntWalk.i64_in _ (by omega)
  have e2 : IntKind.i64.wrap (s + bv - av) = s + bv - av := IntWalk.i64_in _ (by omega)
  have e3 : wrap64 (s + bv) = s + bv := IntWalk.wrap64_in _ ⟨by omega, by omega⟩
  have e4 : wrap64 (s + bv - av) = s + bv - av := IntWalk.wrap64_in _ ⟨by omega, by omega⟩
  clear hs ha hb
  by_cases hab : av ≤ bv
  · have hd := hid (show s + dRise (at_, av) (bt, bv) = s + bv - av by unfold dRise; rw [if_pos hab]; simp only; omega)
    have hab2 : decide (av ≤ bv) = true := decide_eq_true hab
    clear hab
    go_enter Tryd.func45, Tryd.ntmps45
    go_wp2
    rw [hd.out]
    go_end0
    have h := (((HK.out.set_ 0 (.int .i64 (s + bv))).set_ 0 (.int .i64 (s + bv - av))).alloc (.cells #[.int .i64 at_, .int .i64 av] 26)).alloc (.cells #[.int .i64 bt, .int .i64 bv] 26)
    refine ⟨rfl, h, ?_⟩
    exact ((((Chg.refl (fun k => k = g) w).setCell (p := ⟨g, 0, none⟩) (fun _ => rfl) _).setCell (p := ⟨g, 0, none⟩) (fun _ => rfl) _).alloc _).alloc _
  · have hd := hid (show s + dRise (at_, av) (bt, bv) = s + bv by unfold dRise; rw [if_neg hab])
    have hab2 : decide (av ≤ bv) = false := decide_eq_false hab
    clear hab
    go_enter Tryd.func45, Tryd.ntmps45
    go_wp2
    rw [hd.out]
    go_end0
    have h := ((HK.out.set_ 0 (.int .i64 (s + bv))).alloc (.cells #[.int .i64 at_, .int .i64 av] 26)).alloc (.cells #[.int .i64 bt, .int .i64 bv] 26)
    refine ⟨rfl, h, ?_⟩
    exact (((Chg.refl (fun k => k = g) w).setCell (p := ⟨g, 0, none⟩) (fun _ => rfl) _).alloc _).alloc _
set_option maxHeartbeats 1000000 in
theorem mean_step (g : Nat) (s : Int) (a b : Int × Int) (w : World) (hk : Blk w g 3 #[.int .i64 s]) (hs : -1000000000000000000 ≤ s ∧ s ≤ 1000000000000000000) (ha : -16777216 ≤ a.1 ∧ a.1 ≤ 16777216 ∧ -16777216 ≤ a.2 ∧ a.2 ≤ 16777216) (hb : -16777216 ≤ b.1 ∧ b.1 ≤ 16777216 ∧ -16777216 ≤ b.2 ∧ b.2 ≤ 16777216) :
    Calls Tryd.prog 41 #[.agg #[.int .i64 a.1, .int .i64 a.2], .agg #[.int .i64 b.1, .int .i64 b.2], .pointer (some ⟨g, 0, none⟩)] w fun e w' => e = .returned (.tuple #[]) ∧ Blk w' g 3 #[.int .i64 (s + dMean a b)] ∧ Chg (fun k => k = g) w w' := by
  have hdb := dMean_bd a b ha hb
  obtain ⟨at_, av⟩ := a
  obtain ⟨bt, bv⟩ := b
  simp only at ha hb ⊢
  unfold dMean at hdb ⊢
  simp only at hdb ⊢
  have k0 : w.cell? ⟨g, 0, none⟩ = some (.int .i64 s) := hk.cell 0
  have f0 := hk.frozen 0
  have hg := hk.lt
  have HK := hid hk; clear hk
  obtain ⟨u, hu⟩ : ∃ u, bt - at_ = u := ⟨_, rfl⟩
  have e0 : IntKind.i64.wrap (bt - at_) = u := by rw [← hu]; exact IntWalk.i64_in _ (by omega)
  have e5 : wrap64 (bt - at_) = u := by rw [← hu]; exact IntWalk.wrap64_in _ ⟨by omega, by omega⟩
  have e6 : wrap64 u = u := IntWalk.wrap64_in _ ⟨by omega, by omega⟩
  rw [hu] at hdb ⊢
  obtain ⟨p, hp⟩ : ∃ p, av * u = p := ⟨_, rfl⟩
  rw [hp] at hdb ⊢
  have e1 : IntKind.i64.wrap p = p := IntWalk.i64_in _ (by omega)
  have e2 : IntKind.i64.wrap (s + p) = s + p := IntWalk.i64_in _ (by omega)
  have e3 : wrap64 p = p := IntWalk.wrap64_in _ ⟨by omega, by omega⟩
  have e4 : wrap64 (s + p) = s + p := IntWalk.wrap64_in _ ⟨by omega, by omega⟩
  clear hs ha hb hdb
  go_enter Tryd.func41, Tryd.ntmps41
  go_wp2
  go_end0
  have h := ((HK.out.set_ 0 (.int .i64 (s + p))).alloc (.cells #[.int .i64 at_, .int .i64 av] 26)).alloc (.cells #[.int .i64 bt, .int .i64 bv] 26)
  refine ⟨rfl, h, ?_⟩
  exact (((Chg.refl (fun k => k = g) w).setCell (p := ⟨g, 0, none⟩) (fun _ => rfl) _).alloc _).alloc _
set_option maxHeartbeats 2000000 in
theorem pairs_rise (A : Option Addr) (n c g : Nat) (l : List (Int × Int)) (w : World) (hn : n ≤ 120) (h : Sl w 2 A n (l.flatMap gP)) (hl : NearIn l) (hk : Blk w g 3 #[.int .i64 0]) (hA : ∀ ad, A = some ad → 0 < n → ad.block ≠ g) :
    Calls Tryd.prog 40 #[.slice A n c, .func (.func 45) #[] #[.pointer (some ⟨g, 0, none⟩)]] w fun e w' => e = .returned (.tuple #[]) ∧ Blk w' g 3 #[.int .i64 (prs dRise l (n - 1))] ∧ Chg (fun k => k = g) w w' := by
  have H := hid h; have HI := hid hl; have HK := hid hk; have HAA := hid hA
  have HL := hid (show l.length = n by have := h.1; rw [flatMap_len gP 2 (fun _ => rfl)] at this; omega)
  clear h hl hk hA
  go_enter Tryd.func40, Tryd.ntmps40
  go_wp2
  go_loopw [4] (fun i wr => ∃ k : Nat, (k < n ∨ k = 0) ∧ i = .int .i64 ((k : Int) + 1) ∧ Blk wr g 3 #[.int .i64 (prs dRise l k)] ∧ Chg (fun k => k = g) w wr) (fun i _ => n - (intOf i).toNat)
  case atStart => exact ⟨0, .inr rfl, rfl, HK.out, Chg.refl _ _⟩
  case round =>
    obtain ⟨k, hk, rfl, hb, hch⟩ := hrel
    have HB := hid hb; have HC := hid hch; clear hb hch
    by_cases hlt : k + 1 < n
    · obtain ⟨ad, x, rfl, hx, c0, c1⟩ := H.out.atS (k := k) (by omega)
      obtain ⟨ad', y, ha', hy, d0, d1⟩ := H.out.atS (k := k + 1) hlt
      injection ha' with ha'; subst ad'
      have hab := HAA.out ad rfl (by omega)
      have hsum : prs dRise l (k + 1) = prs dRise l k + dRise x y := by
        have e1 : l.getD k (0, 0) = x := by rw [List.getD_eq_getElem?_getD, hx]; rfl
        have e2 : l.getD (k + 1) (0, 0) = y := by rw [List.getD_eq_getElem?_getD, hy]; rfl
        show prs dRise l k + dRise _ _ = _
        rw [e1, e2]
      have hpb := prs_bd dRise l HI.out dRise_bd k (by rw [HL.out]; omega)
      have hbx := HI.out.bd _ (List.mem_of_getElem? hx)
      have hby := HI.out.bd _ (List.mem_of_getElem? hy)
      have HS := hid hsum
      obtain ⟨S, hS⟩ : ∃ S, prs dRise l k = S := ⟨_, rfl⟩
      rw [hS] at HB HS hpb
      have hSb : -1000000000000000000 ≤ S ∧ S ≤ 1000000000000000000 := by omega
      have CC := fun W h => hid (rise_step g S x y W h hSb hbx hby)
      obtain ⟨xt, xv⟩ := x
      obtain ⟨yt, yv⟩ := y
      simp only at c0 c1 d0 d1
      have hadb : ∀ j, (ad.add j).block ≠ g := fun j => by rw [ad_block]; exact hab
      have p0 := HC.out.cell c0 (hadb _)
      have p1 := HC.out.cell c1 (hadb _)
      have p2 := HC.out.cell d0 (hadb _)
      have p3 := HC.out.cell d1 (hadb _)
      clear hx hy hsum hS hpb hbx hby hSb c0 c1 d0 d1 hab hadb
      have i1 : (k : Int) + 1 < (n : Int) := by omega
      have i2 : IntKind.i64.wrap ((k : Int) + 1 - 1) = (k : Int) := by rw [show (k : Int) + 1 - 1 = (k : Int) by omega]; exact IntWalk.i64_in _ (by omega)
      have i3 : (k : Int) < (n : Int) := by omega
      have i4 : (0 : Int) ≤ (k : Int) + 1 := by omega
      have i5 : ((k : Int) + 1).toNat = k + 1 := by omega
      have i7 : IntKind.i64.wrap (k : Int) = (k : Int) := IntWalk.i64_in _ (by omega)
      have i8 : (0 : Int) ≤ (k : Int) := by omega
      have i9 : k < n := by omega
      have ia : wrap64 (k : Int) = (k : Int) := IntWalk.wrap64_in _ ⟨by omega, by omega⟩
      go_wp2_with fail
      go_region_with ((refine (CC _ ?_).out.mono ?_; (· exact HB.out); rintro e w9 ⟨rfl, hb9, hc9⟩))
      all_goals
        have HB9 := hid hb9
        have HC9 := hid (HC.out.drew.trans hc9 (fun _ _ h => h))
        clear hb9 hc9 CC
        go_wp2
        go_roundw
        case rel => exact ⟨k + 1, .inl hlt, by go_num, by rw [HS.out]; exact HB9.out, HC9.out⟩
        case measure => simp [intOf]; omega
    · have i1 : ¬ (k : Int) + 1 < (n : Int) := by omega
      obtain rfl : k = n - 1 := by omega
      go_wp2
      go_end0
      exact ⟨rfl, HB.out, HC.out⟩
set_option maxHeartbeats 2000000 in
theorem pairs_mean (A : Option Addr) (n c g : Nat) (l : List (Int × Int)) (w : World) (hn : n ≤ 120) (h : Sl w 2 A n (l.flatMap gP)) (hl : NearIn l) (hk : Blk w g 3 #[.int .i64 0]) (hA : ∀ ad, A = some ad → 0 < n → ad.block ≠ g) :
    Calls Tryd.prog 40 #[.slice A n c, .func (.func 41) #[] #[.pointer (some ⟨g, 0, none⟩)]] w fun e w' => e = .returned (.tuple #[]) ∧ Blk w' g 3 #[.int .i64 (prs dMean l (n - 1))] ∧ Chg (fun k => k = g) w w' := by
  have H := hid h; have HI := hid hl; have HK := hid hk; have HAA := hid hA
  have HL := hid (show l.length = n by have := h.1; rw [flatMap_len gP 2 (fun _ => rfl)] at this; omega)
  clear h hl hk hA
  go_enter Tryd.func40, Tryd.ntmps40
  go_wp2
  go_loopw [4] (fun i wr => ∃ k : Nat, (k < n ∨ k = 0) ∧ i = .int .i64 ((k : Int) + 1) ∧ Blk wr g 3 #[.int .i64 (prs dMean l k)] ∧ Chg (fun k => k = g) w wr) (fun i _ => n - (intOf i).toNat)
  case atStart => exact ⟨0, .inr rfl, rfl, HK.out, Chg.refl _ _⟩
  case round =>
    obtain ⟨k, hk, rfl, hb, hch⟩ := hrel
    have HB := hid hb; have HC := hid hch; clear hb hch
    by_cases hlt : k + 1 < n
    · obtain ⟨ad, x, rfl, hx, c0, c1⟩ := H.out.atS (k := k) (by omega)
      obtain ⟨ad', y, ha', hy, d0, d1⟩ := H.out.atS (k := k + 1) hlt
      injection ha' with ha'; subst ad'
      have hab := HAA.out ad rfl (by omega)
      have hsum : prs dMean l (k + 1) = prs dMean l k + dMean x y := by
        have e1 : l.getD k (0, 0) = x := by rw [List.getD_eq_getElem?_getD, hx]; rfl
        have e2 : l.getD (k + 1) (0, 0) = y := by rw [List.getD_eq_getElem?_getD, hy]; rfl
        show prs dMean l k + dMean _ _ = _
        rw [e1, e2]
      have hpb := prs_bd dMean l HI.out dMean_bd k (by rw [HL.out]; omega)
      have hbx := HI.out.bd _ (List.mem_of_getElem? hx)
      have hby := HI.out.bd _ (List.mem_of_getElem? hy)
      have HS := hid hsum
      obtain ⟨S, hS⟩ : ∃ S, prs dMean l k = S := ⟨_, rfl⟩
      rw [hS] at HB HS hpb
      have hSb : -1000000000000000000 ≤ S ∧ S ≤ 1000000000000000000 := by omega
      have CC := fun W h => hid (mean_step g S x y W h hSb hbx hby)
      obtain ⟨xt, xv⟩ := x
      obtain ⟨yt, yv⟩ := y
      simp only at c0 c1 d0 d1
      have hadb : ∀ j, (ad.add j).block ≠ g := fun j => by rw [ad_block]; exact hab
      have p0 := HC.out.cell c0 (hadb _)
      have p1 := HC.out.cell c1 (hadb _)
      have p2 := HC.out.cell d0 (hadb _)
      have p3 := HC.out.cell d1 (hadb _)
      clear hx hy hsum hS hpb hbx hby hSb c0 c1 d0 d1 hab hadb
      have i1 : (k : Int) + 1 < (n : Int) := by omega
      have i2 : IntKind.i64.wrap ((k : Int) + 1 - 1) = (k : Int) := by rw [show (k : Int) + 1 - 1 = (k : Int) by omega]; exact IntWalk.i64_in _ (by omega)
      have i3 : (k : Int) < (n : Int) := by omega
      have i4 : (0 : Int) ≤ (k : Int) + 1 := by omega
      have i5 : ((k : Int) + 1).toNat = k + 1 := by omega
      have i7 : IntKind.i64.wrap (k : Int) = (k : Int) := IntWalk.i64_in _ (by omega)
      have i8 : (0 : Int) ≤ (k : Int) := by omega
      have i9 : k < n := by omega
      have ia : wrap64 (k : Int) = (k : Int) := IntWalk.wrap64_in _ ⟨by omega, by omega⟩
      go_wp2_with fail
      go_region_with ((refine (CC _ ?_).out.mono ?_; (· exact HB.out); rintro e w9 ⟨rfl, hb9, hc9⟩))
      all_goals
        have HB9 := hid hb9
        have HC9 := hid (HC.out.drew.trans hc9 (fun _ _ h => h))
        clear hb9 hc9 CC
        go_wp2
        go_roundw
        case rel => exact ⟨k + 1, .inl hlt, by go_num, by rw [HS.out]; exact HB9.out, HC9.out⟩
        case measure => simp [intOf]; omega
    · have i1 : ¬ (k : Int) + 1 < (n : Int) := by omega
      obtain rfl : k = n - 1 := by omega
      go_wp2
      go_end0
      exact ⟨rfl, HB.out, HC.out⟩
theorem sl_block {w : World} {A : Option Addr} {n : Nat} {l : List (Int × Int)} (h : Sl w 2 A n (l.flatMap gP)) (ad : Addr) (ha : A = some ad) (hn : 0 < n) : ad.block < w.heap.size := by
  obtain ⟨ad', f, e, _, c0, _⟩ := h.atS (k := 0) hn
  rw [ha] at e; injection e with e; subst e
  have := World.block_lt_of_cell? w _ c0
  rwa [ad_block] at this
set_option maxHeartbeats 1000000 in
theorem rate_Rise (A : Option Addr) (n c : Nat) (l : List (Int × Int)) (w : World) (hn : n ≤ 120) (h : Sl w 2 A n (l.flatMap gP)) (hl : NearIn l) (ht : ZTab w) :
    Calls Tryd.prog 25 #[.slice A n c] w fun e w' => e = .returned (.tuple #[.int .i64 (prs dRise l (n - 1)), .int .i64 0]) ∧ Below w.heap.size w w' := by
  have H := hid h; have HI := hid hl; have HT := hid ht; clear h hl ht
  go_enter Tryd.func25, Tryd.ntmps25
  go_wp2_with fail
  refine (rate_fault A n c l w hn H.out HI.out HT.out).mono ?_
  rintro e w2 ⟨rfl, hb2⟩
  have HB2 := hid hb2; clear hb2
  go_wp2_with fail
  refine (pairs_rise A n c w2.heap.size l _ hn (H.out.below (bnew HB2.out _)) HI.out (Blk.new w2 _ _) (fun ad ha h0 => by have := sl_block H.out ad ha h0; have := HB2.out.size; omega)).mono ?_
  rintro e w3 ⟨rfl, hk3, hc3⟩
  have k0 : w3.cell? ⟨w2.heap.size, 0, none⟩ = some (.int .i64 (prs dRise l (n - 1))) := hk3.cell 0
  have HB3 := hid ((bnew HB2.out _).trans (hc3.below (B := w.heap.size) (fun k hk => by have := HB2.out.size; omega) (by have := HB2.out.size; simp; omega)))
  clear hk3 hc3
  go_wp2
  go_ret2
  exact ⟨rfl, HB3.out⟩
set_option maxHeartbeats 1000000 in
theorem rate_Mean (A : Option Addr) (n c : Nat) (l : List (Int × Int)) (w : World) (hn : n ≤ 120) (hn2 : 2 ≤ n) (h : Sl w 2 A n (l.flatMap gP)) (hl : NearIn l) (ht : ZTab w) :
    Calls Tryd.prog 20 #[.slice A n c] w fun e w' => e = .returned (.tuple #[.int .i64 (prs dMean l (n - 1)), .int .i64 ((l.getD (n - 1) (0, 0)).1 - (l.getD 0 (0, 0)).1), .int .i64 0]) ∧ Below w.heap.size w w' := by
  have H := hid h; have HI := hid hl; have HT := hid ht; clear h hl ht
  have HT1 := hid (HT.out.below (bnew (bnil w) (.cells #[.int .i64 0] 3)))
  obtain ⟨ad, x, rfl, hx, c0, c1⟩ := H.out.atS (k := 0) (by omega)
  obtain ⟨ad', y, ha', hy, d0, d1⟩ := H.out.atS (k := n - 1) (by omega)
  injection ha' with ha'; subst ad'
  have e1 : l.getD 0 (0, 0) = x := by rw [List.getD_eq_getElem?_getD, hx]; rfl
  have e2 : l.getD (n - 1) (0, 0) = y := by rw [List.getD_eq_getElem?_getD, hy]; rfl
  have hbx := HI.out.bd _ (List.mem_of_getElem? hx)
  have hby := HI.out.bd _ (List.mem_of_getElem? hy)
  rw [e1, e2]
  have HAD := hid (sl_block H.out ad rfl (by omega))
  have i2 : ¬ (n : Int) < 2 := by omega
  obtain ⟨xt, xv⟩ := x
  obtain ⟨yt, yv⟩ := y
  simp only at c0 c1 d0 d1 hbx hby ⊢
  have g1 : IntKind.i64.wrap (yt - xt) = yt - xt := IntWalk.i64_in _ (by omega)
  have g2 : wrap64 (yt - xt) = yt - xt := IntWalk.wrap64_in _ ⟨by omega, by omega⟩
  have C0 := hid c0; have D0 := hid d0
  clear hx hy e1 e2 hbx hby c0 c1 d0 d1
  go_enter Tryd.func20, Tryd.ntmps20
  go_wp2_with fail
  refine (rate_fault (some ad) n c l _ hn (H.out.below (bnew (bnil w) _)) HI.out HT1.out).mono ?_
  rintro e w2 ⟨rfl, hb2⟩
  have HB2 := hid (bgo' hb2 (bnew (bnil w) _))
  have hk2 := (Blk.new w 3 #[.int .i64 0]).below' hb2
  have HK2 := hid hk2
  clear hb2 hk2
  go_wp2_with fail
  refine (pairs_mean (some ad) n c w.heap.size l _ hn (H.out.below HB2.out) HI.out HK2.out (fun ad ha h0 => by have := sl_block H.out ad ha h0; omega)).mono ?_
  rintro e w3 ⟨rfl, hk3, hc3⟩
  have k0 : w3.cell? ⟨w.heap.size, 0, none⟩ = some (.int .i64 (prs dMean l (n - 1))) := hk3.cell 0
  have f0 := hk3.frozen 0
  have HK3 := hid hk3
  have HB3 := hid (HB2.out.trans (hc3.below (B := w.heap.size) (fun k hk => by omega) HB2.out.size))
  have c0 : w3.cell? ad = some (.int .i64 xt) := by have := cell_below HB3.out C0.out; simpa [Addr.add] using this
  have d0 := cell_below HB3.out D0.out
  have hlt := hk3.lt
  clear hk3 hc3
  have i1 : IntKind.i64.wrap ((n : Int) - 1) = (n : Int) - 1 := IntWalk.i64_in _ (by omega)
  have i3 : (0 : Int) ≤ (n : Int) - 1 := by omega
  have i4 : (n : Int) - 1 < (n : Int) := by omega
  have i5 : ((n : Int) - 1).toNat = n - 1 := by omega
  have i6 : 0 < n := by omega
  have i7 : (0 : Int) < (n : Int) := by omega
  have i8 : wrap64 ((n : Int) - 1) = (n : Int) - 1 := IntWalk.wrap64_in _ ⟨by omega, by omega⟩
  have i9 : n - 1 < n := by omega
  have ib : (1 : Int) ≤ (n : Int) := by omega
  obtain ⟨S, hS⟩ : ∃ S, prs dMean l (n - 1) = S := ⟨_, rfl⟩
  rw [hS] at k0 HK3
  have HS := hid hS; clear hS
  have hsc := ((Chg.refl (fun k => k = w.heap.size) w3).setCell (p := ⟨w.heap.size, 0, none⟩) (fun _ => rfl) (.int .i64 S))
  have c0s := hsc.cell c0 (by have := HAD.out; omega)
  have d0s := hsc.cell d0 (by rw [ad_block]; have := HAD.out; omega)
  clear hsc
  go_wp2_with fail
  go_region
  all_goals
    go_wp2
    rw [HS.out]
    have h4 := HK3.out.set_ 0 (.int .i64 S)
    have q0 := h4.cell 0
    refine bodyPost_ret (v := .tuple #[.int .i64 S, .int .i64 (yt - xt), .int .i64 0]) (by simp [results, Tryd.results20, go_sem, q0]) rfl ⟨rfl, ?_⟩
    exact (HB3.out.setCell (Nat.le_refl _) _).drew
end Go.Proofs.YtpoaomjpbjcmbaaDoor
