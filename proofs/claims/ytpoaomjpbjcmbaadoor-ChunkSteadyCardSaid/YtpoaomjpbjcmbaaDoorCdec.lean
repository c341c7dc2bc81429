/-
  chunk.Decode: its walk.
-/
import Derived.Test.YtpoaomjpbjcmbaaDoorZget
import Derived.Test.YtpoaomjpbjcmbaaDoorRead
import Derived.Test.YtpoaomjpbjcmbaaDoorCread
import Derived.Test.YtpoaomjpbjcmbaaDoorSamp
namespace Go.Proofs.YtpoaomjpbjcmbaaDoor
open Go.RowKit
set_option linter.unusedVariables false
set_option maxHeartbeats 2000000 in
theorem ck_fault_no (g : Nat) (s : CkSt) (x : Int × Int) (w : World) (hk : Blk w g 68 s.cells) (hx : ¬ s.may x) :
    Calls Tryd.prog 33 #[.pointer (some ⟨g, 0, none⟩), .agg #[.int .i64 x.1, .int .i64 x.2]] w fun e w' => (∃ r : Int, r ≠ 0 ∧ e = .returned (.int .i64 r)) ∧ Below w.heap.size w w' := by
  obtain ⟨t, v, st, c⟩ := s
  obtain ⟨a, b⟩ := x
  unfold CkSt.may SmpOk at hx
  dsimp only at hx ⊢
  have k0 : w.cell? ⟨g, 0, none⟩ = some (.int .i64 t) := hk.cell 0
  have k2 : w.cell? ⟨g, 3, none⟩ = some (.int .i64 (c : Int)) := hk.cell 3
  have hg := hk.lt
  have HK := hid hk; clear hk
  by_cases h1 : a < -36028797018963968
  · clear hx
    go_enter Tryd.func33, Tryd.ntmps33
    go_wp2
    go_ret
    exact ⟨⟨11, by decide, rfl⟩, bnew (bnil w) _⟩
  · by_cases h2 : 36028797018963968 ≤ a
    · clear hx
      go_enter Tryd.func33, Tryd.ntmps33
      go_wp2
      go_ret
      exact ⟨⟨11, by decide, rfl⟩, bnew (bnil w) _⟩
    · by_cases h3 : b < -36028797018963968
      · clear hx
        go_enter Tryd.func33, Tryd.ntmps33
        go_wp2
        go_ret
        exact ⟨⟨11, by decide, rfl⟩, bnew (bnil w) _⟩
      · by_cases h4 : 36028797018963968 ≤ b
        · clear hx
          go_enter Tryd.func33, Tryd.ntmps33
          go_wp2
          go_ret
          exact ⟨⟨11, by decide, rfl⟩, bnew (bnil w) _⟩
        · have h5 : 0 < c ∧ a ≤ t := by
            rcases Nat.lt_or_ge 0 c with h | h
            · refine ⟨h, ?_⟩
              rcases Int.lt_or_le t a with h6 | h6
              · exact absurd ⟨⟨by omega, by omega, by omega, by omega⟩, fun _ => h6⟩ hx
              · exact h6
            · exact absurd ⟨⟨by omega, by omega, by omega, by omega⟩, fun h6 => by omega⟩ hx
          have hcz : (0 : Int) < (c : Int) := by omega
          have hc0 := h5.1
          have hat := h5.2
          clear hx h5
          go_enter Tryd.func33, Tryd.ntmps33
          go_wp2
          go_region
          go_wp2
          go_ret
          exact ⟨⟨9, by decide, rfl⟩, (bnew (bnil w) _).drew⟩
theorem ck_sample (g : Nat) (s : CkSt) (a b : Int) (w : World) (hk : Blk w g 68 s.cells) (hs : s.ok) (ha : ZSm a) (hb : ZSm b) :
    Calls Tryd.prog 53 #[.pointer (some ⟨g, 0, none⟩), .int .i64 a, .int .i64 b] w fun e w' => e = .returned (.agg #[.int .i64 (s.sample a b).1, .int .i64 (s.sample a b).2]) ∧ Below w.heap.size w w' := by
  obtain ⟨t, v, st, c⟩ := s
  obtain ⟨⟨a1, a2, a3, a4⟩, b1, b2, b3⟩ := hs
  obtain ⟨c1, c2⟩ := ha
  obtain ⟨d1, d2⟩ := hb
  dsimp only at a1 a2 a3 a4 b1 b2 b3 c1 c2 d1 d2 ⊢
  have k0 : w.cell? ⟨g, 0, none⟩ = some (.int .i64 t) := hk.cell 0
  have k1 : w.cell? ⟨g, 1, none⟩ = some (.int .i64 v) := hk.cell 1
  have k2 : w.cell? ⟨g, 2, none⟩ = some (.int .i64 st) := hk.cell 2
  have k3 : w.cell? ⟨g, 3, none⟩ = some (.int .i64 (c : Int)) := hk.cell 3
  have hg := hk.lt
  have HK := hid hk; clear hk
  have HF := hid (Blk.new w 26 #[.int .i64 0, .int .i64 0])
  have f0 := HF.out.frozen 0
  have f1 := HF.out.frozen 1
  by_cases hc : 0 < c
  · have hcz : ((c : Int) == 0) = false := by simp; omega
    have HE := hid (show (CkSt.mk t v st c).sample a b = (t + st + a, v + b) by unfold CkSt.sample; rw [if_neg (by dsimp only; omega)])
    go_enter Tryd.func53, Tryd.ntmps53
    go_wp2
    all_goals (try go_region)
    all_goals (try go_wp2)
    have h := Blk.new w 26 #[.int .i64 (t + st + a), .int .i64 (v + b)]
    have q0 : (w.alloc (.cells #[.int .i64 (t + st + a), .int .i64 (v + b)] 26)).drew.cell? ⟨w.heap.size, 0, none⟩ = some (.int .i64 (t + st + a)) := h.cell 0
    have q1 : (w.alloc (.cells #[.int .i64 (t + st + a), .int .i64 (v + b)] 26)).drew.cell? ⟨w.heap.size, 1, none⟩ = some (.int .i64 (v + b)) := h.cell 1
    refine bodyPost_ret (v := .agg #[.int .i64 (t + st + a), .int .i64 (v + b)]) (by simp [results, Tryd.results53, go_sem, q0, q1]) rfl ⟨by rw [HE.out], (bnew (bnil w) _).drew⟩
  · obtain rfl : c = 0 := by omega
    have HE := hid (show (CkSt.mk t v st 0).sample a b = (a, b) from rfl)
    go_enter Tryd.func53, Tryd.ntmps53
    go_wp2
    all_goals (try go_region)
    all_goals (try go_wp2)
    have h := Blk.new w 26 #[.int .i64 a, .int .i64 b]
    have q0 := h.cell 0
    have q1 := h.cell 1
    simp only [List.getElem?_toArray, List.getElem?_cons_zero, List.getElem?_cons_succ] at q0 q1
    refine bodyPost_ret (v := .agg #[.int .i64 a, .int .i64 b]) (by simp [results, Tryd.results53, go_sem, q0, q1]) rfl ⟨by rw [HE.out], bnew (bnil w) _⟩
/-! ### Decode -/
theorem cgo_err0 : ∀ (c : Nat) (s : CkSt) (bs : List Bool), (cgo c s bs).2.1 ≠ 0 → (cgo c s bs).1 = [] ∧ (cgo c s bs).2.2 = []
  | 0, s, bs, h => absurd rfl h
  | c + 1, s, bs, h => by
    unfold cgo at h ⊢
    simp only at h ⊢
    split
    · split
      · split
        · split
          · rename_i h1 h2 h3 h4
            rw [if_pos h1, if_pos h2, if_pos h3, if_pos h4] at h
            exact absurd rfl h
          · exact ⟨rfl, rfl⟩
        · exact ⟨rfl, rfl⟩
      · exact ⟨rfl, rfl⟩
    · exact ⟨rfl, rfl⟩
def cjoin (out : List (Int × Int)) (r : List (Int × Int) × Nat × List Bool) : List (Int × Int) × Nat × List Bool := if r.2.1 = 0 then (out ++ r.1, 0, r.2.2) else ([], r.2.1, [])
theorem cjoin_nil (r : List (Int × Int) × Nat × List Bool) (h : r.2.1 ≠ 0 → r.1 = [] ∧ r.2.2 = []) : cjoin [] r = r := by
  unfold cjoin
  by_cases h0 : r.2.1 = 0
  · rw [if_pos h0]; exact Prod.ext rfl (Prod.ext h0.symm rfl)
  · rw [if_neg h0]; exact Prod.ext (h h0).1.symm (Prod.ext rfl (h h0).2.symm)
theorem cend_err (r : List (Int × Int) × Nat × List Bool) (k : Nat) (hk : k ≠ 0) (h : r = ([], k, [])) : cend r = ([], k) := by subst h; unfold cend; simp only; rw [if_neg hk]
theorem cgo_e1 (c : Nat) (s : CkSt) (bs : List Bool) (out : List (Int × Int)) (h : (zread bs).2.1 ≠ 0) : cjoin out (cgo (c + 1) s bs) = ([], (zread bs).2.1, []) := by
  unfold cgo cjoin; simp only; rw [if_neg h]; simp only; rw [if_neg h]
theorem cgo_e2 (c : Nat) (s : CkSt) (bs : List Bool) (out : List (Int × Int)) (h : (zread bs).2.1 = 0) (h2 : (zread (bs.drop (zread bs).2.2)).2.1 ≠ 0) : cjoin out (cgo (c + 1) s bs) = ([], (zread (bs.drop (zread bs).2.2)).2.1, []) := by
  unfold cgo cjoin; simp only; rw [if_pos h, if_neg h2]; simp only; rw [if_neg h2]
theorem cgo_e3 (c : Nat) (s : CkSt) (bs : List Bool) (out : List (Int × Int)) (h : (zread bs).2.1 = 0) (h2 : (zread (bs.drop (zread bs).2.2)).2.1 = 0) (h3 : ¬ s.may (s.sample (zread bs).1 (zread (bs.drop (zread bs).2.2)).1)) : cjoin out (cgo (c + 1) s bs) = ([], 4, []) := by
  unfold cgo cjoin; simp only; rw [if_pos h, if_pos h2, if_neg h3]; rfl
theorem cgo_ok (c : Nat) (s : CkSt) (bs : List Bool) (out : List (Int × Int)) (x : Int × Int) (h : (zread bs).2.1 = 0) (h2 : (zread (bs.drop (zread bs).2.2)).2.1 = 0) (hx : s.sample (zread bs).1 (zread (bs.drop (zread bs).2.2)).1 = x) (h3 : s.may x) :
    cjoin out (cgo (c + 1) s bs) = cjoin (out ++ [x]) (cgo c (s.next x) (bs.drop ((zread bs).2.2 + (zread (bs.drop (zread bs).2.2)).2.2))) := by
  rw [cgo]; simp only; rw [if_pos h, if_pos h2, hx, if_pos h3]
  generalize cgo c _ _ = r
  unfold cjoin
  by_cases h0 : r.2.1 = 0
  · rw [if_pos h0, if_pos h0]; simp
  · rw [if_neg h0, if_neg h0]; simp only; rw [if_neg h0]
theorem zread_small (bs : List Bool) (h : (zread bs).2.1 = 0) : ZSm (zread bs).1 := (zread_inv bs _ _ (show zread bs = ((zread bs).1, 0, (zread bs).2.2) by rw [← h])).1
set_option maxRecDepth 100000 in
set_option maxHeartbeats 4000000 in
theorem ck_decode (A : Option Addr) (n c : Nat) (b : List UInt8) (w : World) (hn : n ≤ 1000000000000000) (hA : Sl w 1 A n (byts b)) (ht : ZTab w) :
    Calls Tryd.prog 29 #[.slice A n c] w fun e w' => ∃ v, e = .returned (.tuple #[v, .int .i64 ((cdec (unp b)).2 : Int)]) ∧ Ow w w' 26 2 gP v (cdec (unp b)).1 := by
  have HA := hid hA; have HT := hid ht; clear hA ht
  have HLn := hid HA.out.lenb
  have HUL := hid (show (unp b).length = n * 8 by rw [unp_len, HLn.out])
  go_enter Tryd.func29, Tryd.ntmps29
  go_wp2_with fail
  refine (eye_open w _ _ _).mono ?_
  rintro e w1 ⟨rfl, rfl⟩
  have hbA : 0 < n → ∀ ad, A = some ad → ad.block ≠ w.heap.size := by
    intro h ad e he
    obtain ⟨ad', x, e', _, hc⟩ := HA.out.at_ (k := 0) h
    rw [e] at e'; injection e' with e'; subst e'
    have := World.block_lt_of_cell? w _ hc
    have hb : (ad.add 0).block = ad.block := by unfold Addr.add; split <;> rfl
    omega
  have HBA := hid hbA; clear hbA
  have HW := hid (bnew (bnil w) (.cells (eyeO (.slice A n c) 0) 101))
  have HE := hid (Blk.new w 101 (eyeO (.slice A n c) 0))
  have hgt : w.heap.size ≠ 0 := by have := HT.out.lt; omega
  obtain ⟨g, hg⟩ : ∃ g, w.heap.size = g := ⟨_, rfl⟩
  generalize w.alloc (.cells (eyeO (.slice A n c) 0) 101) = w1 at *
  rw [hg] at HE HBA hgt
  rw [hg]
  have HG := hid hg; clear hg
  by_cases h8 : n = 0
  · have hcd : cdec (unp b) = ([], 5) := by unfold cdec; rw [if_pos (by rw [HUL.out]; omega)]
    have HCDE := hid hcd; clear hcd
    go_wp2_with fail
    refine (eye_none w1 g 0 n c 8 A hn (by omega) (by omega) (by omega) HE.out).mono ?_
    rintro e w2 ⟨rfl, kd, rfl⟩
    go_wp2
    go_ret2
    rw [HCDE.out]
    exact ⟨_, rfl, (Ow.nil' HW.out _ _ _).drewN _⟩
  · go_wp2_with fail
    refine (eye_get w1 g 0 n c 8 A b hn (by omega) (by omega) HE.out (HA.out.below HW.out) HBA.out).mono ?_
    rintro e w2 ⟨rfl, hb2, hc2⟩
    have HSN : Hid (numOf (seen b 0 8) = numOf ((unp b).take 8)) := by unfold seen; rw [List.drop_zero]; exact hid rfl
    have hN := numOf_lt (seen b 0 8)
    rw [seen_len b 0 8 (by rw [HLn.out]; omega)] at hN
    have HB2 := hid (HW.out.trans (hc2.below (B := w.heap.size) (fun k hk => by rw [hk, HG.out]; exact Nat.le_refl _) HW.out.size))
    have HE2 := hid hb2
    clear hb2 hc2
    have HCD := hid (show cdec (unp b) = if 120 < numOf (seen b 0 8) then ([], 4) else cend (cgo (numOf (seen b 0 8)) ⟨0, 0, 0, 0⟩ ((unp b).drop 8)) by
      unfold cdec; rw [if_neg (by rw [HUL.out]; omega), HSN.out])
    clear HSN
    generalize numOf (seen b 0 8) = N at *
    by_cases h120 : 120 < N
    · have HCD2 := HCD.out
      rw [if_pos h120] at HCD2
      have HCDE := hid HCD2
      clear HCD HCD2
      have i1 : (120 : Int) < (N : Int) := by omega
      go_wp2
      go_ret2
      rw [HCDE.out]
      exact ⟨_, rfl, Ow.nil' HB2.out _ _ _⟩
    · have HCD2 := HCD.out
      rw [if_neg h120] at HCD2
      have HC := hid HCD2
      clear HCD HCD2
      have i1 : ¬ (120 : Int) < (N : Int) := by omega
      have HGA := hid (show g ≠ w2.heap.size by have := HE2.out.lt; omega)
      have HK0 := hid (Blk.new w2 68 (CkSt.mk 0 0 0 0).cells)
      have HE3 := hid (HE2.out.alloc (.cells (CkSt.mk 0 0 0 0).cells 68))
      have HB3 := hid (bnew HB2.out (.cells (CkSt.mk 0 0 0 0).cells 68))
      have hga2 : w.heap.size ≤ w2.heap.size := HB2.out.size
      clear HE HE2
      go_wp2_with fail
      have ecell : (.cells #[.int .i64 0, .int .i64 0, .int .i64 0, .int .i64 0] 68 : Obj) = .cells (CkSt.mk 0 0 0 0).cells 68 := rfl
      rw [ecell]
      generalize hga : w2.heap.size = ga at *
      clear hga ecell
      generalize w2.alloc (.cells (CkSt.mk 0 0 0 0).cells 68) = w3 at *
      have HGA2 := hid hga2; clear hga2
      go_loopw [7, 29] (fun o j wr => ∃ (t : Nat) (out : List (Int × Int)) (st : CkSt) (p : Nat), t ≤ N ∧ j = .int .i64 t ∧ out.length = t ∧ Ow w wr 26 2 gP o out ∧ Blk wr g 101 (eyeO (.slice A n c) p) ∧ Blk wr ga 68 st.cells ∧ p ≤ n * 8 ∧ Hid (st.ok ∧ st.count = t) ∧
        Hid (cgo N ⟨0, 0, 0, 0⟩ ((unp b).drop 8) = cjoin out (cgo (N - t) st ((unp b).drop p)))) (fun _ j _ => N - (intOf j).toNat)
      case atStart => exact ⟨0, [], ⟨0, 0, 0, 0⟩, 8, Nat.zero_le _, rfl, rfl, Ow.nil' HB3.out _ _ _, HE3.out, HK0.out, by omega, hid ⟨CkSt.ok0, rfl⟩, hid (cjoin_nil _ (cgo_err0 _ _ _)).symm⟩
      case round =>
        obtain ⟨t, out, st, p, htN, rfl, hol, ho, he, hk, hp, HST, HGO⟩ := hrel
        have HO := hid ho; have HEr := hid he; have HKr := hid hk; clear ho he hk
        have HNE := hid (own_ne_blk HO.out.own HEr.out (by decide))
        have HNK := hid (own_ne_blk HO.out.own HKr.out (by decide))
        have HTr := hid (HT.out.below HO.out.below)
        have HAr := hid (HA.out.below HO.out.below)
        by_cases hlt : t < N
        · have i2 : (t : Int) < (N : Int) := by omega
          obtain ⟨c', hc'⟩ : ∃ c', N - t = c' + 1 := ⟨N - t - 1, by omega⟩
          rw [hc'] at HGO
          have HC' := hid (show N - (t + 1) = c' by omega); clear hc'
          have CG := fun V p h1 h2 h3 h4 => hid (zig_get V g p n c A b hn h1 h2 h3 HBA.out h4 hgt)
          obtain ⟨z, hz⟩ : ∃ z, zread ((unp b).drop p) = z := ⟨_, rfl⟩
          have HZ := hid hz; clear hz
          obtain ⟨za, zb, zc⟩ := z
          go_wp2_with fail
          refine (CG wr p hp HEr.out HAr.out HTr.out).out.mono ?_
          rw [HZ.out]
          rintro e w4 ⟨rfl, ⟨q, hq, hbq, hq2⟩, hch⟩
          simp only at hq2 ⊢
          have HO4 := hid (HO.out.chg hch (fun k hk hkg => HNE.out (by rw [hk, hkg])) (fun k hkg => by rw [hkg, HG.out]; exact Nat.le_refl _))
          have HE4 := hid hbq
          have HK4 := hid (hch.blk HKr.out (fun e => HGA.out e.symm))
          clear hbq hch
          by_cases hzb : zb = 0
          · subst hzb
            have hqe := hq2 rfl
            have HNE4 := hid (own_ne_blk HO4.out.own HE4.out (by decide))
            obtain ⟨y, hy⟩ : ∃ y, zread ((unp b).drop q) = y := ⟨_, rfl⟩
            have HY := hid hy; clear hy
            obtain ⟨ya, yb, yc⟩ := y
            have hsa := zread_small ((unp b).drop p) (by rw [HZ.out])
            rw [HZ.out] at hsa
            simp only at hsa
            have HSA := hid hsa; clear hsa
            clear hq2
            have HT4 := hid (HT.out.below HO4.out.below)
            have HA4 := hid (HA.out.below HO4.out.below)
            go_wp2_with fail
            refine (CG w4 q hq HE4.out HA4.out HT4.out).out.mono ?_
            rw [HY.out]
            rintro e w5 ⟨rfl, ⟨r, hr, hbr, hr2⟩, hch⟩
            simp only at hr2 ⊢
            have HO5 := hid (HO4.out.chg hch (fun k hk hkg => HNE4.out (by rw [hk, hkg])) (fun k hkg => by rw [hkg, HG.out]; exact Nat.le_refl _))
            have HE5 := hid hbr
            have HK5 := hid (hch.blk HK4.out (fun e => HGA.out e.symm))
            clear hbr hch
            by_cases hyb : yb = 0
            · subst hyb
              have hre := hr2 rfl
              have hsb := zread_small ((unp b).drop q) (by rw [HY.out])
              rw [HY.out] at hsb
              simp only at hsb
              have HSB := hid hsb; clear hsb
              clear hr2
              have HRE := hid hre; have HQE := hid hqe; clear hre hqe
              obtain ⟨x, hx⟩ : ∃ x, st.sample za ya = x := ⟨_, rfl⟩
              have HX := hid hx
              have hsmp := ck_sample ga st za ya w5 HK5.out HST.out.1 HSA.out HSB.out
              rw [hx] at hsmp
              clear hx
              go_wp2_with fail
              refine hsmp.mono ?_
              rintro e w6 ⟨rfl, hb6⟩
              have HO6 := hid (HO5.out.step (bnew hb6 (.cells #[.int .i64 x.1, .int .i64 x.2] 26)))
              have HE6 := hid (HE5.out.below' (bnew hb6 (.cells #[.int .i64 x.1, .int .i64 x.2] 26)))
              have HK6 := hid (HK5.out.below' (bnew hb6 (.cells #[.int .i64 x.1, .int .i64 x.2] 26)))
              have HS6 := hid (Blk.new w6 26 #[.int .i64 x.1, .int .i64 x.2])
              clear hb6 hsmp
              have HGB := hid (show ga < w6.heap.size from by
                have h1 := HK6.out.lt
                have h2 := HS6.out.lt
                have h3 : ga ≠ w6.heap.size := by
                  intro e
                  have h4 := HK6.out
                  rw [e] at h4
                  have h5 := HS6.out
                  unfold Blk at h4 h5
                  rw [h4] at h5
                  injection h5 with h5
                  injection h5 with _ h5
                  exact absurd h5 (by decide)
                simp at h1; omega)
              by_cases hm : st.may x
              · have HCJ := hid (cgo_ok c' st ((unp b).drop p) out x (by rw [HZ.out]) (by rw [HZ.out, List.drop_drop, ← HQE.out, HY.out]) (by rw [HZ.out, List.drop_drop, ← HQE.out, HY.out]; exact HX.out) hm)
                have HCJ2 := HCJ.out
                rw [HZ.out, List.drop_drop, List.drop_drop, ← HQE.out, HY.out, show p + (zc + yc) = r by have := HRE.out; have := HQE.out; omega] at HCJ2
                have HGO2 := hid (HGO.out.trans HCJ2)
                clear HCJ HCJ2 HGO
                have hst := HST.out.2
                obtain ⟨xt, xv⟩ := x
                simp only at HO6 HE6 HK6 HS6
                go_wp2_with fail
                refine (ck_fault ga st (xt, xv) _ HK6.out hm.1 hm.2).mono ?_
                rintro e w7 ⟨rfl, hb7⟩
                have HO7 := hid (HO6.out.step hb7); have HE7 := hid (HE6.out.below' hb7); have HK7 := hid (HK6.out.below' hb7); have HS7 := hid (HS6.out.below' hb7)
                clear hb7
                have kc0 : w7.cell? ⟨w6.heap.size, 0, none⟩ = some (.int .i64 xt) := HS7.out.cell 0
                have kc1 : w7.cell? ⟨w6.heap.size, 1, none⟩ = some (.int .i64 xv) := HS7.out.cell 1
                have HNE7 := hid (own_ne_blk HO7.out.own HE7.out (by decide))
                have HNK7 := hid (own_ne_blk HO7.out.own HK7.out (by decide))
                go_wp2_with fail
                refine (ck_next ga st (xt, xv) w7 HK7.out HST.out.1 hm.1).mono ?_
                rintro e w8 ⟨rfl, hk8, hc8⟩
                have HK8 := hid hk8
                have HO8 := hid (HO7.out.chg hc8 (fun k hk hkg => HNK7.out (by rw [hk, hkg])) (fun k hkg => by rw [hkg]; exact HGA2.out))
                have HE8 := hid (hc8.blk HE7.out (fun e => HGA.out e))
                have HS8 := hid (hc8.blk HS7.out (fun e => by have := HGB.out; omega))
                clear hk8 hc8 kc0 kc1
                have kc0 : w8.cell? ⟨w6.heap.size, 0, none⟩ = some (.int .i64 xt) := HS8.out.cell 0
                have kc1 : w8.cell? ⟨w6.heap.size, 1, none⟩ = some (.int .i64 xv) := HS8.out.cell 1
                have HSN := hid (st.next_ok (xt, xv) HST.out.1 hm.1 (by omega) hm.2)
                have HSC := hid (show (st.next (xt, xv)).count = t + 1 by show st.count + 1 = _; rw [hst])
                obtain ⟨y, hy⟩ : ∃ y, out ++ [(xt, xv)] = y := ⟨_, rfl⟩
                have hyl : y.length = t + 1 := by rw [← hy, List.length_append, hol]; rfl
                rw [hy] at HGO2
                have HYY := hid hy; clear hy hst
                have HNE8 := hid (own_ne_blk (HO8.out.alloc (.cells #[.int .i64 xt, .int .i64 xv] 26)).own (HE8.out.alloc (.cells #[.int .i64 xt, .int .i64 xv] 26)) (by decide))
                have HNK8 := hid (own_ne_blk (HO8.out.alloc (.cells #[.int .i64 xt, .int .i64 xv] 26)).own (HK8.out.alloc (.cells #[.int .i64 xt, .int .i64 xv] 26)) (by decide))
                go_wp2_with (at_builtin; refine wpList_appY elmP gP_one rfl (.tmp 55) (.tmp 57) rfl u7 out rfl (HO8.out.alloc _) [(xt, xv)] y HYY rfl (Sl.fresh _ #[.int .i64 xt, .int .i64 xv] 26 2 1 rfl) rfl (by simp only [maxLen]; omega) (by omega) ?_; intro A9 c9 w9 _ _ HN9 HG9 _)
                go_roundw
                case rel =>
                  refine ⟨t + 1, y, st.next (xt, xv), r, by omega, by go_num, hyl, (by have h9 := HN9.out; rw [hyl] at h9; exact h9), ?_, ?_, hr, hid ⟨HSN.out, HSC.out⟩, ?_⟩
                  · exact (Chg.of_grown HG9.out (fun k h => h) : Chg (fun k => u7.ownBlock = some k) _ _).blk (HE8.out.alloc _) HNE8.out
                  · exact (Chg.of_grown HG9.out (fun k h => h) : Chg (fun k => u7.ownBlock = some k) _ _).blk (HK8.out.alloc _) HNK8.out
                  · rw [HC'.out]; exact HGO2
                case measure => simp [intOf] <;> omega
              · have HCE := hid (cend_err (cgo N ⟨0, 0, 0, 0⟩ ((unp b).drop 8)) 4 (by decide) (by rw [HGO.out, cgo_e3 c' st _ out (by rw [HZ.out]) (by rw [HZ.out, List.drop_drop, ← HQE.out, HY.out]) (by rw [HZ.out, List.drop_drop, ← HQE.out, HY.out]; rw [HX.out]; exact hm)]))
                have CFN := fun V h => hid (ck_fault_no ga st x V h hm)
                clear hm
                go_wp2_with fail
                refine (CFN _ HK6.out).out.mono ?_
                rintro e w7 ⟨⟨r0, hr0, rfl⟩, hb7⟩
                have hr1 : (r0 != 0) = true := by simpa using hr0
                have HB7 := hid (HO6.out.step hb7).below
                clear hb7 hr0
                go_wp2
                go_ret2
                rw [HC.out, HCE.out]
                exact ⟨_, rfl, Ow.nil' HB7.out _ _ _⟩
            · have HCE := hid (cend_err (cgo N ⟨0, 0, 0, 0⟩ ((unp b).drop 8)) yb hyb (by rw [HGO.out, cgo_e2 c' st _ out (by rw [HZ.out]) (by rw [HZ.out, List.drop_drop, ← hqe, HY.out]; exact hyb), HZ.out, List.drop_drop, ← hqe, HY.out]))
              have hyb2 : ((yb : Int) != 0) = true := by simp; omega
              clear hr2
              go_wp2
              go_ret2
              rw [HC.out, HCE.out]
              exact ⟨_, rfl, Ow.nil' HO5.out.below _ _ _⟩
          · have HCE := hid (cend_err (cgo N ⟨0, 0, 0, 0⟩ ((unp b).drop 8)) zb hzb (by rw [HGO.out, cgo_e1 c' st _ out (by rw [HZ.out]; exact hzb), HZ.out]))
            have hzb2 : ((zb : Int) != 0) = true := by simp; omega
            clear hq2
            go_wp2
            go_ret2
            rw [HC.out, HCE.out]
            exact ⟨_, rfl, Ow.nil' HO4.out.below _ _ _⟩
        · obtain rfl : t = N := by omega
          have i2 : ¬ (t : Int) < (t : Int) := by omega
          have HGO2 := HGO.out
          rw [Nat.sub_self] at HGO2
          have HGE := hid (show cend (cgo t ⟨0, 0, 0, 0⟩ ((unp b).drop 8)) = if numOf (((unp b).drop p).take ((n * 8 - p) % 8)) = 0 ∧ n * 8 - p < 8 then (out, 0) else ([], 4) by
            rw [HGO2]; show cend (out ++ [], 0, (unp b).drop p) = _; unfold cend; simp only [List.append_nil, List.length_drop, HUL.out, if_true])
          clear HGO HGO2
          obtain ⟨L, hL⟩ : ∃ L, n * 8 - p = L := ⟨_, rfl⟩
          obtain ⟨K, hK⟩ : ∃ K, L % 8 = K := ⟨_, rfl⟩
          have hK8 : K < 8 := by omega
          have hKL : K ≤ L := by omega
          have HGL := fun V h => hid (eye_left V g p n c A (by omega) hp h)
          have hpk : p + K ≤ n * 8 := by omega
          have HGL2 := fun V h => hid (eye_left V g (p + K) n c A (by omega) hpk h)
          have hLK : n * 8 - (p + K) = L - K := by omega
          rw [hLK] at HGL2
          rw [hL] at HGL
          rw [hL, hK] at HGE
          have HGT := fun V h h2 => hid (eye_get V g p n c K A b hn (by omega) (by omega) h h2 HBA.out)
          rw [show numOf (seen b p K) = numOf (((unp b).drop p).take K) from rfl] at HGT
          generalize numOf (((unp b).drop p).take K) = R at *
          have jK : ((L : Int) % 8) = (K : Int) := by omega
          clear hLK hL
          go_wp2_with fail
          refine (HGL wr HEr.out).out.mono ?_
          rintro e w4 ⟨rfl, kd, rfl⟩
          go_wp2_with fail
          refine (HGT (wr.drewN kd) HEr.out (HAr.out.drewN kd)).out.mono ?_
          rintro e w5 ⟨rfl, hb5, hc5⟩
          have HB5 := hid hb5
          have HO5 := hid ((HO.out.drewN kd).chg hc5 (fun k hk hkg => HNE.out (by rw [hk, hkg])) (fun k hkg => by rw [hkg, HG.out]; exact Nat.le_refl _))
          clear hb5 hc5
          by_cases hR : R = 0
          · by_cases hL8 : L < 8
            · have HGE2 := HGE.out
              rw [if_pos ⟨hR, hL8⟩] at HGE2
              have HF := hid (HC.out.trans HGE2)
              have hLK : L - K = 0 := by omega
              rw [hLK] at HGL2
              subst hR
              clear HC HGE HGE2
              go_wp2_with fail
              refine (HGL2 w5 HB5.out).out.mono ?_
              rintro e w6 ⟨rfl, kd2, rfl⟩
              go_wp2
              go_ret2
              rw [HF.out]
              exact ⟨_, rfl, HO5.out.drewN _⟩
            · have HGE2 := HGE.out
              rw [if_neg (fun h => hL8 h.2)] at HGE2
              have HF := hid (HC.out.trans HGE2)
              have hLK : (0 : Int) < ((L - K : Nat) : Int) := by omega
              have hLK2 : decide ((0 : Int) < ((L - K : Nat) : Int)) = true := decide_eq_true hLK
              have hLK3 : 0 < L - K := by omega
              subst hR
              clear HC HGE HGE2
              go_wp2_with fail
              refine (HGL2 w5 HB5.out).out.mono ?_
              rintro e w6 ⟨rfl, kd2, rfl⟩
              go_wp2
              go_ret2
              rw [HF.out]
              exact ⟨_, rfl, Ow.nil' (HO5.out.drewN kd2).below _ _ _⟩
          · have HGE2 := HGE.out
            rw [if_neg (fun h => hR h.1)] at HGE2
            have HF := hid (HC.out.trans HGE2)
            have hR1 : (0 : Int) < (R : Int) := by omega
            have hR2 : 0 < R := by omega
            clear HC HGE HGE2
            go_wp2
            go_ret2
            rw [HF.out]
            exact ⟨_, rfl, Ow.nil' HO5.out.below _ _ _⟩
end Go.Proofs.YtpoaomjpbjcmbaaDoor
