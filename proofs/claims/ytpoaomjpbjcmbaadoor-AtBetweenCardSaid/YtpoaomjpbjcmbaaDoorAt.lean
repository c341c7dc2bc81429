/-
  sort.Search with At's closure, rate.At: their walks.
-/
import Derived.Test.YtpoaomjpbjcmbaaDoorRiseLaw
namespace Go.Proofs.YtpoaomjpbjcmbaaDoor
open Go.RowKit
set_option linter.unusedVariables false
/-- the first sample at the time or later -/
def FirstGE (l : List (Int × Int)) (t : Int) (i : Nat) : Prop := i ≤ l.length ∧ (∀ (k : Nat) (x : Int × Int), k < i → l[k]? = some x → x.1 < t) ∧ ∀ x : Int × Int, l[i]? = some x → t ≤ x.1
set_option maxHeartbeats 1000000 in
theorem at_test (g2 g3 : Nat) (A : Option Addr) (n c k : Nat) (l : List (Int × Int)) (t : Int) (x : Int × Int) (w : World) (hn : n ≤ 120) (h : Sl w 2 A n (l.flatMap gP)) (h2 : Blk w g2 24 #[.slice A n c]) (h3 : Blk w g3 3 #[.int .i64 t]) (hk : k < n) (hx : l[k]? = some x) :
    Calls Tryd.prog 49 #[.int .i64 (k : Int), .pointer (some ⟨g2, 0, none⟩), .pointer (some ⟨g3, 0, none⟩)] w fun e w' => e = .returned (.bool (decide (t ≤ x.1))) ∧ ∃ j, w' = w.drewN j := by
  obtain ⟨ad, x', rfl, hx', c0, c1⟩ := h.atS hk
  obtain rfl : x = x' := by rw [hx] at hx'; injection hx'
  clear hx'
  have k2 := h2.cell 0
  have k3 := h3.cell 0
  simp only [List.getElem?_toArray, List.getElem?_cons_zero] at k2 k3
  have i1 : (k : Int) < (n : Int) := by omega
  go_enter Tryd.func49, Tryd.ntmps49
  go_wp2_with fail
  go_quiet (fail)
  go_wp2
  go_ret
  exact ⟨rfl, nq, rfl⟩
set_option maxHeartbeats 1000000 in
theorem search_at (g2 g3 : Nat) (A : Option Addr) (n c : Nat) (l : List (Int × Int)) (t : Int) (i : Nat) (w : World) (hn : n ≤ 120) (h : Sl w 2 A n (l.flatMap gP)) (hl : NearIn l) (h2 : Blk w g2 24 #[.slice A n c]) (h3 : Blk w g3 3 #[.int .i64 t]) (hi : FirstGE l t i) :
    Calls Tryd.prog 48 #[.int .i64 (n : Int), .func (.func 49) #[] #[.pointer (some ⟨g2, 0, none⟩), .pointer (some ⟨g3, 0, none⟩)]] w fun e w' => e = .returned (.int .i64 (i : Int)) ∧ Below w.heap.size w w' := by
  have H := hid h; have HI := hid hl; have H2 := hid h2; have H3 := hid h3; have HF := hid hi
  have HL := hid (show l.length = n by have := h.1; rw [flatMap_len gP 2 (fun _ => rfl)] at this; omega)
  clear h hl h2 h3 hi
  have hmono : Hid (∀ (a b : Nat) (x y : Int × Int), a < b → l[a]? = some x → l[b]? = some y → x.1 < y.1) := by
    refine hid fun a b => ?_
    induction b with
    | zero => intro x y h; omega
    | succ b ih =>
      intro x y hab hx hy
      have hbl : b < l.length := by have := (List.getElem?_eq_some_iff.1 hy).1; omega
      have hb : l[b]? = some l[b] := List.getElem?_eq_getElem hbl
      have h1 := HI.out.up b _ _ hb hy
      by_cases h : a = b
      · subst h; rw [hb] at hx; injection hx with hx; rw [← hx]; exact h1
      · have := ih x l[b] (by omega) hx hb; omega
  go_enter Tryd.func48, Tryd.ntmps48
  go_wp2
  go_loopw [5, 6] (fun a b wr => ∃ p q : Nat, a = .int .i64 p ∧ b = .int .i64 q ∧ p ≤ i ∧ i ≤ q ∧ q ≤ n ∧ Below w.heap.size w wr) (fun a b _ => (intOf b).toNat - (intOf a).toNat)
  case atStart => exact ⟨0, n, rfl, rfl, Nat.zero_le _, by have := HF.out.1; rw [HL.out] at this; exact this, Nat.le_refl _, bnil _⟩
  case round =>
    obtain ⟨p, q, rfl, rfl, hp, hq, hqn, hb⟩ := hrel
    have HB := hid hb; clear hb
    by_cases hlt : p < q
    · obtain ⟨m, hm⟩ : ∃ m, (p + q) / 2 = m := ⟨_, rfl⟩
      have hmp : p ≤ m := by omega
      have hmq : m < q := by omega
      have hml : m < l.length := by rw [HL.out]; omega
      obtain ⟨x, hx⟩ : ∃ x, l[m]? = some x := ⟨_, List.getElem?_eq_getElem hml⟩
      have hmn : m < n := by omega
      have HAT := fun V h1 h2 h3 => hid (at_test g2 g3 A n c m l t x V hn h1 h2 h3 hmn hx)
      have e1 : (((p : Int) + (q : Int)) / 2) = (m : Int) := by omega
      have i1 : (p : Int) < (q : Int) := by omega
      have HMM := hid hm
      have HX := hid hx
      clear hx hm
      by_cases hc : t ≤ x.1
      · have e2 : decide (t ≤ x.1) = true := decide_eq_true hc
        have him : i ≤ m := by
          rcases Nat.lt_or_ge m i with h | h
          · have := HF.out.2.1 m x h HX.out; omega
          · exact h
        go_wp2_with fail
        refine (HAT wr (H.out.below HB.out) (H2.out.below' HB.out) (H3.out.below' HB.out)).out.mono ?_
        rintro e w2 ⟨rfl, kd, rfl⟩
        rw [e2]
        go_wp2
        go_roundw
        case rel => exact ⟨p, m, rfl, rfl, hp, him, by omega, below_drewN HB.out _⟩
        case measure => simp [intOf]; omega
      · have e2 : decide (t ≤ x.1) = false := decide_eq_false hc
        have him : m < i := by
          rcases Nat.lt_or_ge m i with h | h
          · exact h
          · exfalso
            rcases Nat.lt_or_ge i m with h2 | h2
            · obtain ⟨y, hy⟩ : ∃ y, l[i]? = some y := ⟨_, List.getElem?_eq_getElem (by omega)⟩
              have h3 := hmono.out i m y x h2 hy HX.out
              have h4 := HF.out.2.2 y hy
              omega
            · obtain rfl : i = m := by omega
              have h4 := HF.out.2.2 x HX.out
              omega
        go_wp2_with fail
        refine (HAT wr (H.out.below HB.out) (H2.out.below' HB.out) (H3.out.below' HB.out)).out.mono ?_
        rintro e w2 ⟨rfl, kd, rfl⟩
        rw [e2]
        go_wp2
        go_roundw
        case rel => exact ⟨m + 1, q, by go_num, rfl, by omega, hq, hqn, below_drewN HB.out _⟩
        case measure => simp [intOf]; omega
    · obtain rfl : p = q := by omega
      obtain rfl : p = i := by omega
      have i1 : ¬ (p : Int) < (p : Int) := by omega
      go_wp2
      go_ret
      exact ⟨rfl, HB.out⟩
theorem Blk.newx (w : World) (o : Obj) (t : TypeId) (cs : Array Value) : Blk ((w.alloc o).alloc (.cells cs t)) (w.heap.size + 1) t cs := by
  have := Blk.new (w.alloc o) t cs
  rwa [show (w.alloc o).heap.size = w.heap.size + 1 by simp] at this
def atv (l : List (Int × Int)) (t : Int) (i : Nat) : Int × Nat :=
  match l[i]? with
  | some x => if x.1 = t then (x.2, 0) else if i = 0 then (0, 6) else ((l.getD (i - 1) (0, 0)).2 + (x.2 - (l.getD (i - 1) (0, 0)).2) * (t - (l.getD (i - 1) (0, 0)).1) / (x.1 - (l.getD (i - 1) (0, 0)).1), 0)
  | none => (0, 6)
theorem tdiv_floor (n d : Int) (hd : 0 < d) : (if Int.tmod n d < 0 then Int.tdiv n d - 1 else Int.tdiv n d) = n / d := by
  have h1 := Int.mul_tdiv_add_tmod n d
  have h2 := Int.mul_ediv_add_emod n d
  have h3 := Int.emod_nonneg n (show d ≠ 0 by omega)
  have h4 := Int.emod_lt_of_pos n hd
  have h5 := Int.tmod_lt_of_pos n hd
  have h6 : -d < Int.tmod n d := by
    rcases Int.le_total 0 n with h | h
    · have := Int.tmod_nonneg d h; omega
    · have h7 := Int.tmod_nonneg d (show 0 ≤ -n by omega)
      have h8 := Int.tmod_lt_of_pos (-n) hd
      rw [Int.neg_tmod] at h8; omega
  generalize Int.tmod n d = r at *
  generalize Int.tdiv n d = q at *
  generalize n / d = e at *
  generalize n % d = f at *
  have h9 : d * (e - q) = r - f := by rw [Int.mul_sub]; omega
  split
  · rename_i hr
    have : e - q = -1 := by
      rcases Int.lt_or_le (e - q) (-1) with h | h
      · have := Int.mul_le_mul_of_nonneg_left (show e - q ≤ -2 by omega) (show 0 ≤ d by omega); omega
      · rcases Int.lt_or_le (-1) (e - q) with h' | h'
        · have := Int.mul_le_mul_of_nonneg_left (show 0 ≤ e - q by omega) (show 0 ≤ d by omega); omega
        · omega
    omega
  · rename_i hr
    have : e - q = 0 := by
      rcases Int.lt_or_le (e - q) 0 with h | h
      · have := Int.mul_le_mul_of_nonneg_left (show e - q ≤ -1 by omega) (show 0 ≤ d by omega); omega
      · rcases Int.lt_or_le 0 (e - q) with h' | h'
        · have := Int.mul_le_mul_of_nonneg_left (show 1 ≤ e - q by omega) (show 0 ≤ d by omega); omega
        · omega
    omega
set_option maxHeartbeats 2000000 in
theorem rate_At (A : Option Addr) (n c : Nat) (l : List (Int × Int)) (t : Int) (i : Nat) (w : World) (hn : n ≤ 120) (h : Sl w 2 A n (l.flatMap gP)) (hl : NearIn l) (htb : -33554432 ≤ t ∧ t ≤ 33554432) (hi : FirstGE l t i) (ht : ZTab w) :
    Calls Tryd.prog 27 #[.slice A n c, .int .i64 t] w fun e w' => e = .returned (.tuple #[.int .i64 (atv l t i).1, .int .i64 ((atv l t i).2 : Int)]) ∧ Below w.heap.size w w' := by
  have H := hid h; have HI := hid hl; have HT := hid ht; have HF := hid hi
  have HL := hid (show l.length = n by have := h.1; rw [flatMap_len gP 2 (fun _ => rfl)] at this; omega)
  clear h hl ht hi
  have hin : i ≤ n := by have := HF.out.1; rw [HL.out] at this; exact this
  have H20 := hid ((Blk.new w 24 #[.slice A n c]).alloc (.cells #[.int .i64 t] 3))
  have H30 := hid (Blk.newx w (.cells #[.slice A n c] 24) 3 #[.int .i64 t])
  have HB0 := hid (bnew (bnew (bnil w) (.cells #[.slice A n c] 24)) (.cells #[.int .i64 t] 3))
  go_enter Tryd.func27, Tryd.ntmps27
  go_wp2_with fail
  refine (rate_fault A n c l _ hn (H.out.below HB0.out) HI.out (HT.out.below HB0.out)).mono ?_
  rintro e w2 ⟨rfl, hb2⟩
  have HB2 := hid (bgo' hb2 HB0.out)
  have H22 := hid (H20.out.below' hb2)
  have H32 := hid (H30.out.below' hb2)
  have k2 := H22.out.cell 0
  have k3 := H32.out.cell 0
  simp only [List.getElem?_toArray, List.getElem?_cons_zero] at k2 k3
  have hg2 := H22.out.lt
  have hg3 := H32.out.lt
  clear hb2
  go_wp2_with fail
  refine (search_at _ _ A n c l t i w2 hn (H.out.below HB2.out) HI.out H22.out H32.out HF.out).mono ?_
  rintro e w3 ⟨rfl, hb3⟩
  have HB3 := hid (bgo' hb3 HB2.out)
  have H23 := hid (H22.out.below' hb3)
  have H33 := hid (H32.out.below' hb3)
  clear k2 k3 hb3
  have k2 := H23.out.cell 0
  have k3 := H33.out.cell 0
  simp only [List.getElem?_toArray, List.getElem?_cons_zero] at k2 k3
  have hg2 := H23.out.lt
  have hg3 := H33.out.lt
  by_cases hlt : i < n
  · obtain ⟨ad, x, rfl, hx, c0, c1⟩ := (H.out.below HB3.out).atS hlt
    have hxb := HI.out.bd x (List.mem_of_getElem? hx)
    have i1 : (i : Int) < (n : Int) := by omega
    by_cases hxt : x.1 = t
    · have hv : atv l t i = (x.2, 0) := by unfold atv; rw [hx]; simp only; rw [if_pos hxt]
      have HV := hid hv; clear hv
      obtain ⟨xt, xv⟩ := x
      simp only at c0 c1 hxt hxb
      subst hxt
      clear hx
      go_wp2_with fail
      go_quiet (fail)
      go_wp2
      go_ret2
      rw [HV.out]
      exact ⟨rfl, below_drewN HB3.out _⟩
    · by_cases hi0 : i = 0
      · have hv : atv l t i = (0, 6) := by unfold atv; rw [hx]; simp only; rw [if_neg hxt, if_pos hi0]
        have HV := hid hv; clear hv
        obtain ⟨xt, xv⟩ := x
        simp only at c0 c1 hxt hxb
        have hne := beqF hxt
        subst hi0
        have c00 : w3.cell? ad = some (.int .i64 xt) := by have := c0; simpa [Addr.add] using this
        clear hx
        go_wp2_with fail
        go_quiet (fail)
        go_wp2
        go_ret2
        rw [HV.out]
        exact ⟨rfl, below_drewN HB3.out _⟩
      · obtain ⟨ad', y, ha', hy, d0, d1⟩ := (H.out.below HB3.out).atS (k := i - 1) (by omega)
        injection ha' with ha'; subst ad'
        have hyb := HI.out.bd y (List.mem_of_getElem? hy)
        have hup := HI.out.up (i - 1) y x hy (by rw [show i - 1 + 1 = i by omega]; exact hx)
        have hyt := HF.out.2.1 (i - 1) y (by omega) hy
        have hxt2 := HF.out.2.2 x hx
        have hv : atv l t i = (y.2 + (x.2 - y.2) * (t - y.1) / (x.1 - y.1), 0) := by
          unfold atv
          rw [hx]
          simp only
          rw [if_neg hxt, if_neg hi0, show l.getD (i - 1) (0, 0) = y by rw [List.getD_eq_getElem?_getD, hy]; rfl]
        have HV := hid hv; clear hv
        obtain ⟨xt, xv⟩ := x
        obtain ⟨yt, yv⟩ := y
        simp only at c0 c1 d0 d1 hxt hxb hyb hup hyt hxt2 HV
        have hne := beqF hxt
        clear hx hy
        obtain ⟨P, hP⟩ : ∃ P, xv - yv = P := ⟨_, rfl⟩
        obtain ⟨Q, hQ⟩ : ∃ P, t - yt = P := ⟨_, rfl⟩
        obtain ⟨D, hD⟩ : ∃ P, xt - yt = P := ⟨_, rfl⟩
        rw [hP, hQ, hD] at HV
        have hPb : -33554432 ≤ P ∧ P ≤ 33554432 := by omega
        have hQb : -67108864 ≤ Q ∧ Q ≤ 67108864 := by omega
        have hDb : 0 < D ∧ D ≤ 33554432 := by omega
        have hN := mul_bd P Q 33554432 67108864 hPb.1 hPb.2 hQb.1 hQb.2
        obtain ⟨N, hNN⟩ : ∃ N, P * Q = N := ⟨_, rfl⟩
        rw [hNN] at hN HV
        have e1 : wrap64 (xv - yv) = P := by rw [hP]; exact IntWalk.wrap64_in _ ⟨by omega, by omega⟩
        have e2 : wrap64 (t - yt) = Q := by rw [hQ]; exact IntWalk.wrap64_in _ ⟨by omega, by omega⟩
        have e3 : wrap64 (xt - yt) = D := by rw [hD]; exact IntWalk.wrap64_in _ ⟨by omega, by omega⟩
        have e4 : wrap64 (P * Q) = N := by rw [hNN]; exact IntWalk.wrap64_in _ ⟨by omega, by omega⟩
        have f1 : IntKind.i64.wrap (xv - yv) = P := by rw [hP]; exact IntWalk.i64_in _ (by omega)
        have f2 : IntKind.i64.wrap (t - yt) = Q := by rw [hQ]; exact IntWalk.i64_in _ (by omega)
        have f3 : IntKind.i64.wrap (xt - yt) = D := by rw [hD]; exact IntWalk.i64_in _ (by omega)
        have f4 : IntKind.i64.wrap (P * Q) = N := by rw [hNN]; exact IntWalk.i64_in _ (by omega)
        have hdz : (D == 0) = false := beqF (by omega)
        have hdz2 : ¬ D = 0 := by omega
        have hqb : -2251799813685248 ≤ N / D ∧ N / D ≤ 2251799813685248 := by
          have h1 := Int.mul_ediv_add_emod N D
          have h3 := Int.emod_nonneg N (show D ≠ 0 by omega)
          have h4 := Int.emod_lt_of_pos N hDb.1
          generalize N / D = q at *
          generalize N % D = r at *
          rcases Int.le_total 0 q with h | h
          · have h5 := Int.mul_le_mul_of_nonneg_right (show 1 ≤ D by omega) h
            rw [Int.one_mul] at h5; omega
          · have h5 := Int.mul_le_mul_of_nonpos_right (show 1 ≤ D by omega) h
            rw [Int.one_mul] at h5
            constructor
            · have h6 : D * q ≤ -2251799813685249 ∨ -2251799813685249 < D * q := by omega
              by_cases h7 : -2251799813685248 ≤ q
              · exact h7
              · exfalso
                have h8 := Int.mul_le_mul_of_nonneg_left (show q ≤ -2251799813685249 by omega) (show 0 ≤ D by omega)
                omega
            · omega
        have HFL := hid (tdiv_floor N D hDb.1)
        have j1 : IntKind.i64.wrap ((i : Int) - 1) = (i : Int) - 1 := IntWalk.i64_in _ (by omega)
        have j3 : (0 : Int) ≤ (i : Int) - 1 := by omega
        have j4 : (i : Int) - 1 < (n : Int) := by omega
        have j5 : ((i : Int) - 1).toNat = i - 1 := by omega
        have j6 : 0 < i := by omega
        have j7 : (0 : Int) < (i : Int) := by omega
        have j8 : wrap64 ((i : Int) - 1) = (i : Int) - 1 := IntWalk.wrap64_in _ ⟨by omega, by omega⟩
        have j9 : (1 : Int) ≤ (i : Int) := by omega
        have ja : ((i : Int) == 0) = false := by simp; omega
        have jb : ((i : Int) == (n : Int)) = false := by simp; omega
        have jc : i - 1 < n := by omega
        clear hP hQ hD hNN
        go_wp2_with fail
        go_quiet (fail)
        go_wp2_with fail
        have HB4 := hid (below_drewN HB3.out nq)
        have c04 : (w3.drewN nq).cell? (ad.add (i * 2)) = some (.int .i64 xt) := c0
        have c14 : (w3.drewN nq).cell? ⟨(ad.add (i * 2)).block, (ad.add (i * 2)).off + 1, none⟩ = some (.int .i64 xv) := c1
        have d04 : (w3.drewN nq).cell? (ad.add ((i - 1) * 2)) = some (.int .i64 yt) := d0
        have d14 : (w3.drewN nq).cell? ⟨(ad.add ((i - 1) * 2)).block, (ad.add ((i - 1) * 2)).off + 1, none⟩ = some (.int .i64 yv) := d1
        have k24 : (w3.drewN nq).cell? ⟨w.heap.size, 0, none⟩ = some (.slice (some ad) n c) := k2
        have k34 : (w3.drewN nq).cell? ⟨w.heap.size + 1, 0, none⟩ = some (.int .i64 t) := k3
        have hg24 : w.heap.size < (w3.drewN nq).heap.size := hg2
        have hg34 : w.heap.size + 1 < (w3.drewN nq).heap.size := hg3
        clear c0 c1 d0 d1 k2 k3 hg2 hg3
        have hcb := World.block_lt_of_cell? _ _ c04
        have hcb1 := World.block_lt_of_cell? _ _ d04
        generalize w3.drewN nq = w4 at *
        have hcb2 : (ad.add (i * 2)).block < w4.heap.size + 1 := by omega
        have hcb3 : (ad.add ((i - 1) * 2)).block < w4.heap.size + 1 := by omega
        go_region
        all_goals
          go_wp2_with fail
          go_quiet (fail)
          by_cases hneg : N.tmod D < 0
          · have hfl := HFL.out
            rw [if_pos hneg] at hfl
            obtain ⟨q, hq⟩ : ∃ q, N.tdiv D = q := ⟨_, rfl⟩
            obtain ⟨r, hr⟩ : ∃ q, N.tmod D = q := ⟨_, rfl⟩
            have hrb : -33554432 ≤ r ∧ r < 0 := by
              have h1 := Int.mul_tdiv_add_tmod N D
              have h2 := Int.mul_ediv_add_emod N D
              have h4 := Int.emod_lt_of_pos N hDb.1
              have h5 := Int.emod_nonneg N hdz2
              rw [hq, hr] at h1
              rw [← hfl, hq, Int.mul_sub] at h2
              generalize D * q = z at *
              omega
            rw [hq] at hfl
            have HFQ := hid hfl
            have g1 : wrap64 q = q := IntWalk.wrap64_in _ ⟨by omega, by omega⟩
            have g2 : IntKind.i64.wrap q = q := IntWalk.i64_in _ (by omega)
            have g3 : wrap64 r = r := IntWalk.wrap64_in _ ⟨by omega, by omega⟩
            have g4 : IntKind.i64.wrap r = r := IntWalk.i64_in _ (by omega)
            have g5 : r < 0 := hrb.2
            have g6 : wrap64 (q - 1) = q - 1 := IntWalk.wrap64_in _ ⟨by omega, by omega⟩
            have g7 : IntKind.i64.wrap (q - 1) = q - 1 := IntWalk.i64_in _ (by omega)
            have g8 : wrap64 (yv + (q - 1)) = yv + (q - 1) := IntWalk.wrap64_in _ ⟨by omega, by omega⟩
            have g9 : IntKind.i64.wrap (yv + (q - 1)) = yv + (q - 1) := IntWalk.i64_in _ (by omega)
            clear hfl hneg
            go_wp2
            go_ret2
            rw [HV.out]
            refine ⟨?_, below_drewN (bnew (bnew HB4.out _) _) _⟩
            rw [← HFQ.out]; rfl
          · have hfl := HFL.out
            rw [if_neg hneg] at hfl
            obtain ⟨q, hq⟩ : ∃ q, N.tdiv D = q := ⟨_, rfl⟩
            obtain ⟨r, hr⟩ : ∃ q, N.tmod D = q := ⟨_, rfl⟩
            have hrb : 0 ≤ r ∧ r < 33554432 := by
              have h1 := Int.mul_tdiv_add_tmod N D
              have h2 := Int.mul_ediv_add_emod N D
              have h4 := Int.emod_lt_of_pos N hDb.1
              have h5 := Int.emod_nonneg N hdz2
              rw [hq, hr] at h1
              rw [← hfl, hq] at h2
              generalize D * q = z at *
              omega
            rw [hq] at hfl
            have HFQ := hid hfl
            have g1 : wrap64 q = q := IntWalk.wrap64_in _ ⟨by omega, by omega⟩
            have g2 : IntKind.i64.wrap q = q := IntWalk.i64_in _ (by omega)
            have g3 : wrap64 r = r := IntWalk.wrap64_in _ ⟨by omega, by omega⟩
            have g4 : IntKind.i64.wrap r = r := IntWalk.i64_in _ (by omega)
            have g5 : ¬ r < 0 := by omega
            have g8 : wrap64 (yv + q) = yv + q := IntWalk.wrap64_in _ ⟨by omega, by omega⟩
            have g9 : IntKind.i64.wrap (yv + q) = yv + q := IntWalk.i64_in _ (by omega)
            clear hfl hneg
            go_wp2
            go_ret2
            rw [HV.out]
            refine ⟨?_, below_drewN (bnew (bnew HB4.out _) _) _⟩
            rw [← HFQ.out]; rfl
  · have hv : atv l t i = (0, 6) := by unfold atv; rw [List.getElem?_eq_none (by rw [HL.out]; omega)]
    have HV := hid hv; clear hv
    obtain rfl : i = n := by omega
    have i1 : ¬ (i : Int) < (i : Int) := by omega
    by_cases hi0 : i = 0
    · subst hi0
      go_wp2_with fail
      all_goals (try go_quiet (fail))
      all_goals go_wp2
      go_ret2
      rw [HV.out]
      exact ⟨rfl, below_drewN HB3.out _⟩
    · have hi1 : ((i : Int) == 0) = false := by simp; omega
      go_wp2_with fail
      all_goals (try go_quiet (fail))
      all_goals go_wp2
      go_ret2
      rw [HV.out]
      exact ⟨rfl, below_drewN HB3.out _⟩
end Go.Proofs.YtpoaomjpbjcmbaaDoor
