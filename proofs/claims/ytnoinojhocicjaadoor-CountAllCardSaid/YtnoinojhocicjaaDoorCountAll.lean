/-
  CountAll: its walk. Written by gen_countall.py.
-/
import Derived.Test.YtnoinojhocicjaaDoorCountAllMem
namespace Go.Proofs.YtnoinojhocicjaaDoor
open Go.RowKit
set_option linter.unusedVariables false

theorem one_own1 {B : Nat} {w : World} : ∀ (k : Nat) (c : VCall) (a : SV), ([⟨1, []⟩] : List VCall)[k]? = some c → ([⟨none, 0, 0⟩] : List SV)[k]? = some a → w.ownsRow B 3 1 a.v c.args.length (c.args.flatMap gI) := by
  intro k c a hc ha
  rw [List.getElem?_singleton] at hc ha
  split at hc
  · rename_i h; rw [if_pos h] at ha
    injection hc with hc; injection ha with ha
    subst hc ha
    exact own0 w B _ 1
  · cases hc
theorem growT {T n c : Nat} {a b : World} (h : a.grownBy b (Value.slice (some ⟨T, 0, none⟩) n c).ownBlock) : Chg (fun k => k = T) a b := Chg.of_grown h fun k e => (Option.some.inj (show some T = some k from e)).symm
theorem M4.app {w0 w wA w8 : World} {B0 : Nat} {Cb : Nat} {AW : Option Addr} {cW : Nat} {cv : Nat → Value} {vT : Value} {sv : Nat → SV} {cs : List Int} {av : Nat → List SV} (h : M4 w0.heap.size B0 w Cb AW cW cv vT sv cs av) {X : Nat} {mc : Array Value} (hX : Blk w X 27 mc) {n : Nat} {v : Value} {xs : List Value} (hv : w.ownsRow B0 3 1 v n xs) (hB : Below w0.heap.size w0 w) (hB0 : w0.heap.size ≤ B0)
    (hb : Below w.heap.size w wA) (hG : wA.grownBy w8 v.ownBlock) : M4 w0.heap.size B0 w8 Cb AW cW cv vT sv cs av ∧ Blk w8 X 27 mc ∧ Below w0.heap.size w0 w8 ∧ w.heap.size ≤ w8.heap.size := by
  have hvA := own_below hv hb
  have hc := Chg.of_grown hG (M := fun k => v.ownBlock = some k) (fun k e => e)
  have hBA := bgo hB hb
  exact ⟨(h.below hb).ints_ hvA hc, hc.blk (hX.below' hb) (own_ne_blk hvA (hX.below' hb) (by decide)), hBA.grown hG hBA.size (fun b hb => Nat.le_trans hB0 (own_ge hvA b hb).1), Nat.le_trans hb.size hG.size⟩
theorem M4.row {B B0 : Nat} {w : World} {Cb : Nat} {AW A6 : Option Addr} {cW c6 : Nat} {cv : Nat → Value} {sv : Nat → SV} {cs : List Int} {av : Nat → List SV} (h : M4 B B0 w Cb AW cW cv (.slice A6 4 c6) sv cs av) : ∃ T4, A6 = some ⟨T4, 0, none⟩ ∧ ∀ j, j < 4 → w.cell? ⟨T4, j, none⟩ = some (sv j).v := by
  obtain ⟨T4, c', e, _, hc⟩ := own_at h.thr (by decide)
  injection e with e1 e2 e3
  refine ⟨T4, e1, fun j hj => hc j _ ?_⟩
  rcases (show j = 0 ∨ j = 1 ∨ j = 2 ∨ j = 3 by omega) with rfl | rfl | rfl | rfl <;> rfl
theorem callMA {cs : List Int} {n c : Nat} {x : VCall} (h : callOf (countMA cs) n c = some x) : n < 4 ∧ (th4 cs n)[c]? = some x := by
  unfold callOf at h
  rw [Option.bind_eq_some_iff] at h
  obtain ⟨calls, h1, h2⟩ := h
  have hn : n < 4 := (List.getElem?_eq_some_iff.1 h1).1
  refine ⟨hn, ?_⟩
  have : (countMA cs).threads[n]? = some (th4 cs n) := by rcases (show n = 0 ∨ n = 1 ∨ n = 2 ∨ n = 3 by omega) with rfl | rfl | rfl | rfl <;> rfl
  rw [this] at h1
  injection h1 with h1
  rw [h1]; exact h2
/-- what the loop has seen -/
structure AllIn (m : Mach) (ds : List Dg) (v : Int) (k : Nat) (sm la : Int) : Prop where
  sm : sm = ((ds.take k).map (argOf m)).sum
  la : ∀ (j : Nat) (d : Dg), j < k → ds[j]? = some d → d.t = 3 → la = v
theorem AllIn.next {m : Mach} {ds : List Dg} {v : Int} {k : Nat} {sm la : Int} (h : AllIn m ds v k sm la) {d : Dg} (hd : ds[k]? = some d) {sm' la' : Int} (h1 : sm' = sm + argOf m d) (h2 : d.t = 3 → la' = v) (h3 : d.t ≠ 3 → la' = la) (h4 : la = v → la' = v) : AllIn m ds v (k + 1) sm' la' := by
  refine ⟨?_, fun j d' hj hd' ht => ?_⟩
  · rw [take_next hd, List.map_append, List.sum_append, ← h.sm, h1]; simp
  · by_cases e : j = k
    · subst e
      have := hd.symm.trans hd'
      injection this with this
      subst this
      exact h2 ht
    · exact h4 (h.la j d' (by omega) hd' ht)
theorem sees6a {W w' : World} {p1 p2 p3 p4 p5 p6 : Addr} {u1 u2 u3 u4 u5 u6 : Value} (h : Below W.heap.size W w') (h1 : W.cell? p1 = some u1) (h2 : W.cell? p2 = some u2) (h3 : W.cell? p3 = some u3) (h4 : W.cell? p4 = some u4) (h5 : W.cell? p5 = some u5) (h6 : W.cell? p6 = some u6) :
    w'.cell? p1 = some u1 ∧ w'.cell? p2 = some u2 ∧ w'.cell? p3 = some u3 ∧ w'.cell? p4 = some u4 ∧ w'.cell? p5 = some u5 ∧ w'.cell? p6 = some u6 := ⟨cell_below h h1, cell_below h h2, cell_below h h3, cell_below h h4, cell_below h h5, cell_below h h6⟩
set_option maxHeartbeats 8000000 in
set_option maxRecDepth 100000 in
theorem law_countAll (D : Option Addr) (r s : Nat) (cs : List Int) (S : Option Addr) (p q : Nat) (bs : List UInt8) (w : World)
    (hr : r ≤ s) (hs : s ≤ maxLen) (_ : s * 8 ≤ 140737488351232) (hD : Sl w 1 D r (ints cs)) (hcs : ∀ x ∈ cs, -9223372036854775808 ≤ x ∧ x ≤ 9223372036854775807)
    (hp : p ≤ q) (hq : q ≤ maxLen) (_ : q * 1 ≤ 140737488351232) (hS : Sl w 1 S p (byts bs)) (hT : STab w) :
    Calls Tryd.prog 8 #[.slice D r s, .slice S p q] w fun e w' => e = .returned (.bool true) ∧ Below w.heap.size w w' := by
  have HDD := hid hD; have HCS := hid hcs; have HS := hid hS; have HT := hid hT
  clear hD hcs hS hT
  have hpl : p ≤ 9223372036854775807 := by unfold maxLen at hq; omega
  have hrl : r ≤ 9223372036854775807 := by unfold maxLen at hs; omega
  clear hq hs
  go_enter Tryd.func8, Tryd.ntmps8
  go_wp2_with fail
  refine (count_machine D r s cs w hrl HDD.out HCS.out).mono ?_
  rintro e w1 hp1
  obtain ⟨AW, cW, Cb, T, cv, tv, av, rfl, hW, hM, b1⟩ := hp1
  have HM := hid hM; have B1 := hid b1; have HW := hid hW
  clear hM b1 hW
  obtain ⟨X, hX⟩ : ∃ X, w1.heap.size = X := ⟨_, rfl⟩
  have HXGE := hid (show w.heap.size ≤ X by rw [← hX]; exact B1.out.size)
  go_wp2_with fail
  have HX0 := hid (blkN w1 27 #[.slice AW 1 cW, .slice (some ⟨Cb, 0, none⟩) 2 2, .slice (some ⟨T, 0, none⟩) 3 3] X hX)
  have BA := hid (bgo B1.out (bnew (bnil w1) (.cells #[.slice AW 1 cW, .slice (some ⟨Cb, 0, none⟩) 2 2, .slice (some ⟨T, 0, none⟩) 3 3] 27)))
  have HMA := hid (HM.out.below (bnew (bnil w1) (.cells #[.slice AW 1 cW, .slice (some ⟨Cb, 0, none⟩) 2 2, .slice (some ⟨T, 0, none⟩) 3 3] 27)))
  have HWA := hid (own_below HW.out (bnew (bnil w1) (.cells #[.slice AW 1 cW, .slice (some ⟨Cb, 0, none⟩) 2 2, .slice (some ⟨T, 0, none⟩) 3 3] 27)))
  generalize World.alloc w1 _ = wA at *
  clear hX HM HW
  refine (schedule_n S p q 3 300 bs wA hpl (by decide) (by decide) (by decide) (HS.out.below BA.out)).mono ?_
  rintro e w2 ⟨v, rfl, ho⟩
  have hl4 : (schedN bs 3 300).length ≤ 300 := by rw [schedN_len]; omega
  have HLT := hid (schedN_lt bs (N := 3) (by decide) 300)
  generalize schedN bs 3 300 = all at *
  obtain ⟨Al, cl, rfl, hcl, hcl2⟩ := ho.form
  have HO := hid ho; clear ho
  rw [show (nats all).length = all.length by simp] at *
  obtain ⟨N, hN⟩ : ∃ N, all.length = N := ⟨_, rfl⟩
  rw [hN] at HO hl4 hcl ⊢
  have HN := hid hN; clear hN hcl hcl2
  have HO := hid (show Ow wA w2 3 1 gI (.slice Al N cl) (nats (apS all 0 0)) by rw [show apS all 0 0 = all by unfold apS; simp]; exact HO.out)
  go_wp2_with fail
  go_loopw [6, 7] (fun v i wr => ∃ (t L : Nat) (A1 : Option Addr) (c1 : Nat), t ≤ 3 ∧ L ≤ 900 ∧ Hid (L = N + 200 * t) ∧ i = .int .i64 t ∧ v = .slice A1 L c1 ∧ Hid (Ow wA wr 3 1 gI (.slice A1 L c1) (nats (apS all t 0)))) (fun _ i _ => 3 - (intOf i).toNat)
  case atStart => exact ⟨0, N, Al, cl, Nat.zero_le _, by omega, rfl, rfl, rfl, HO⟩
  case round =>
    clear HO
    obtain ⟨t, L, A1, c1, ht, hL9, HL, rfl, rfl, HO⟩ := hrel
    by_cases h1 : t < 3
    · have i1 : (t : Int) < 3 := by omega
      go_wp2
      go_loopw [6, 8] (fun v i wr => ∃ (k L : Nat) (A1 : Option Addr) (c1 : Nat), k ≤ 200 ∧ L ≤ 900 ∧ Hid (L = N + 200 * t + k) ∧ i = .int .i64 k ∧ v = .slice A1 L c1 ∧ Hid (Ow wA wr 3 1 gI (.slice A1 L c1) (nats (apS all t k)))) (fun _ i _ => 200 - (intOf i).toNat)
      case atStart => exact ⟨0, L, A1, c1, Nat.zero_le _, hL9, HL, rfl, rfl, HO⟩
      case round =>
        clear HL HO
        obtain ⟨k, L, A1, c1, hk, hL9, HL, rfl, rfl, HO⟩ := hrel
        by_cases h2 : k < 200
        · have i2 : (k : Int) < 200 := by omega
          have hL8 : L < 900 := by have := HL.out; omega
          obtain ⟨y, hy⟩ : ∃ y, nats (apS all t k) ++ [(t : Int)] = y := ⟨_, rfl⟩
          have HYE := hid (show y = nats (apS all t (k + 1)) by rw [← hy, apS_next]; unfold nats; rw [List.map_append]; rfl)
          have HY := hid hy
          have HYN := hid (show y.length = L + 1 by rw [HYE.out]; unfold nats; rw [List.length_map, apS_len, HN.out, HL.out]; omega)
          clear hy
          go_wp2_with (at_builtin; refine wpList_appY elmI gI_one rfl (.tmp 29) (.tmp 31) rfl (.slice A1 L c1) _ rfl (HO.out.alloc _) [(t : Int)] y HY rfl (Sl.fresh wr #[_] 3 1 1 rfl) (by go_num) (by rw [HYN.out]; simp only [maxLen]; omega) (by rw [HYN.out]; omega) ?_; intro A4 c4 w4 hc4 hc5 HN1 _ _)
          go_roundw
          case rel => exact ⟨k + 1, L + 1, A4, c4, by omega, by omega, hid (by have := HL.out; omega), by go_num, by rw [HYN.out], hid (by have h1 := HN1.out; rw [HYN.out] at h1; rw [← HYE.out]; exact h1)⟩
          case measure => simp [intOf]; omega
        · obtain rfl : k = 200 := by omega
          have i2 : ¬ (((200 : Nat) : Int)) < 200 := by omega
          go_wp2
          go_roundw
          case rel => exact ⟨t + 1, L, A1, c1, by omega, hL9, hid (by have := HL.out; omega), by go_num, rfl, hid (by rw [apS_up]; exact HO.out)⟩
          case measure => simp [intOf]; omega
    · obtain rfl : t = 3 := by omega
      have i1 : ¬ (((3 : Nat) : Int)) < 3 := by omega
      have HO := hid (show Ow wA wr 3 1 gI (.slice A1 L c1) (nats (allS all)) by rw [← apS_all]; exact HO.out)
      have HMR := hid (HMA.out.below HO.out.below)
      have HXR := hid (HX0.out.below' HO.out.below)
      have HWR := hid (own_below HWA.out HO.out.below)
      have B2 := hid (bgo BA.out HO.out.below)
      have hsmW := hid (fun b hb => (own_ge HWA.out b hb).2)
      have hsmA := hid (show ∀ j, j < 3 → ∀ a ∈ av j, ∀ b, a.v.ownBlock = some b → b < wA.heap.size from fun j hj a ha b hb => by
        obtain ⟨r1, r2, r3⟩ := HMA.out.rows j hj
        obtain ⟨i, hi⟩ := List.getElem?_of_mem ha
        have hi2 : i < (countThs cs 9 j).length := by rw [← r1]; exact (List.getElem?_eq_some_iff.1 hi).1
        exact (own_ge (r3 i _ a (List.getElem?_eq_getElem hi2) hi) b hb).2)
      obtain ⟨sv, hsv⟩ : ∃ sv : Nat → SV, (∀ j, j < 3 → tv j = (sv j).v) ∧ sv 3 = ⟨some ⟨wr.heap.size, 0, none⟩, 1, 1⟩ := by
        have key : ∀ j, j < 3 → ∃ u : SV, tv j = u.v := fun j hj => by
          obtain ⟨A, c, e, _⟩ := own_form (HMR.out.rows j hj).2.1
          exact ⟨⟨A, _, c⟩, e⟩
        obtain ⟨u0, e0⟩ := key 0 (by decide)
        obtain ⟨u1, e1⟩ := key 1 (by decide)
        obtain ⟨u2, e2⟩ := key 2 (by decide)
        refine ⟨fun j => if j = 0 then u0 else if j = 1 then u1 else if j = 2 then u2 else ⟨some ⟨wr.heap.size, 0, none⟩, 1, 1⟩, fun j hj => ?_, rfl⟩
        rcases (show j = 0 ∨ j = 1 ∨ j = 2 by omega) with rfl | rfl | rfl
        · exact e0
        · exact e1
        · exact e2
      obtain ⟨hsv1, hsv3⟩ := hsv
      have HSV := hid hsv1; have HSV3 := hid hsv3
      have c2 : wr.cell? ⟨X, 2, none⟩ = some (.slice (some ⟨T, 0, none⟩) 3 3) := HXR.out.cell 2
      have f2 := HXR.out.frozen 2
      have ltX := HXR.out.lt
      have HTO := hid (show ∀ w', Below wr.heap.size wr w' → w'.ownsRow w.heap.size 44 1 (.slice (some ⟨T, 0, none⟩) 3 3) [sv 0, sv 1, sv 2].length ([sv 0, sv 1, sv 2].flatMap gV) from fun w' hb => by
        have h := own_blk HMR.out.geT (HMR.out.tb.below' hb) (arrN_size tv 3) (by simp [maxLen])
        rw [show (arrN tv 3).toList = [sv 0, sv 1, sv 2].flatMap gV from by
          show [tv 0, tv 1, tv 2] = [(sv 0).v, (sv 1).v, (sv 2).v]
          rw [HSV.out 0 (by decide), HSV.out 1 (by decide), HSV.out 2 (by decide)]] at h
        exact h)
      obtain ⟨y, hy⟩ : ∃ y, [sv 0, sv 1, sv 2] ++ [sv 3] = y := ⟨_, rfl⟩
      have HY := hid hy
      have HYL := hid (show y.length = 4 by rw [← hy]; rfl)
      have HB2 := hid B2.out.size
      clear hsv1 hsv3 hy
      go_wp2_with (at_builtin; refine wpList_appC elmT4 gV_one rfl (.tmp 34) (.tmp 37) rfl (.slice (some ⟨T, 0, none⟩) 3 3) [sv 0, sv 1, sv 2] rfl (HTO.out _ (bnew (bnew (bnil wr) _) _)) [sv 3] y HY rfl (by rw [HSV3.out]; exact Sl.fresh' (wr.alloc (.cells #[.int .i64 1, .slice none 0 0] 46)) #[.slice (some ⟨wr.heap.size, 0, none⟩) 1 1] 44 1 1 _ (by simp) rfl) rfl (by rw [HYL.out]; simp [maxLen]) (by rw [HYL.out]; decide) (Nat.le_trans HB2.out (bnew (bnew (bnil wr) _) _).size) ?_; intro A6 c6 w6 hc6 hc7 HN6 HG6 HO6; have HX6 := hid ((growT HG6.out).blk (HXR.out.below' (bnew (bnew (bnil wr) _) _)) (HXR.out.ne_ HMR.out.tb (by decide))); have c26 : w6.cell? ⟨X, 2, none⟩ = some (.slice (some ⟨T, 0, none⟩) 3 3) := HX6.out.cell 2; have f26 := HX6.out.frozen 2)
      have C0 := hid (show CRow w.heap.size ((wr.alloc (.cells #[.int .i64 1, .slice none 0 0] 46)).alloc (.cells #[.slice (some ⟨wr.heap.size, 0, none⟩) 1 1] 44)) (sv 3).v [⟨1, []⟩] [⟨none, 0, 0⟩] from by
        rw [HSV3.out]
        refine ⟨rfl, own_below (own_fresh wr #[.int .i64 1, .slice none 0 0] 46 2 1 _ _ rfl HB2.out rfl (by simp [maxLen])) (bnew (bnil _) _), one_own1⟩)
      have hy4 := HYL.out
      have H6 := hid (M4.of_ (B0 := wA.heap.size) HMR.out HWR.out hsmW.out hsmA.out HSV.out (bnew (bnew (bnil wr) _) _) C0.out HG6.out (vT := .slice A6 y.length c6) (by have h := HN6.out; rw [← HY.out] at h ⊢; exact h))
      have CX := hid ((Chg.refl (fun k => k = X) w6).setCell (p := ⟨X, 2, none⟩) (fun _ => rfl) (.slice A6 y.length c6))
      have H7 := hid (H6.out.mach_ HX6.out CX.out)
      have HX7 := hid (HX6.out.set_ 2 (.slice A6 y.length c6))
      have HWB := hid (own_below HO.out.own (bnew (bnew (bnil wr) (.cells #[.int .i64 1, .slice none 0 0] 46)) (.cells #[.slice (some ⟨wr.heap.size, 0, none⟩) 1 1] 44)))
      have HTB := hid (HMR.out.tb.below' (bnew (bnew (bnil wr) (.cells #[.int .i64 1, .slice none 0 0] 46)) (.cells #[.slice (some ⟨wr.heap.size, 0, none⟩) 1 1] 44)))
      have HS6 := hid (own_chg HWB.out (growT HG6.out) fun k hk e => own_ne_blk HWB.out HTB.out (by decide) (by rw [hk, e]))
      have HS7 := hid (own_chg HS6.out CX.out fun k hk e => own_ne_blk HS6.out HX6.out (by decide) (by rw [hk, e]))
      have BB2 := hid (bgo B2.out (bnew (bnew (bnil wr) (.cells #[.int .i64 1, .slice none 0 0] 46)) (.cells #[.slice (some ⟨wr.heap.size, 0, none⟩) 1 1] 44)))
      have B7 := hid ((BB2.out.grown HG6.out BB2.out.size (fun b hb => by have e := Option.some.inj (show some T = some b from hb); rw [← e]; exact HMR.out.geT)).setCell (p := ⟨X, 2, none⟩) HXGE.out (.slice A6 y.length c6))
      have hBA0 := BA.out.size
      rw [hy4] at H7 HX7 B7 HS7 ⊢
      have hAs7 : wA.heap.size ≤ (w6.setCell ⟨X, 2, none⟩ (.slice A6 4 c6)).heap.size := Nat.le_trans (Nat.le_trans (Nat.le_trans HO.out.below.size (bnew (bnew (bnil wr) (.cells #[.int .i64 1, .slice none 0 0] 46)) (.cells #[.slice (some ⟨wr.heap.size, 0, none⟩) 1 1] 44)).size) HG6.out.size) ((Chg.refl (fun k => k = X) w6).setCell (p := ⟨X, 2, none⟩) (fun _ => rfl) (.slice A6 4 c6)).size
      have HAS7 := hid hAs7
      clear hAs7
      generalize World.setCell w6 ⟨X, 2, none⟩ (.slice A6 4 c6) = w7 at *
      have HZ0 := hid (show w7.ownsRow wA.heap.size 3 1 (.slice A1 L c1) (nats (allS all ++ List.replicate 0 3)).length ((nats (allS all ++ List.replicate 0 3)).flatMap gI) by rw [List.replicate_zero, List.append_nil]; exact HS7.out)
      clear CX H6 HX6 HWB HTB HS6 HS7 BB2 C0 HN6 HG6 HO6 HSV HSV3 HTO HY HYL hy4 hsmW hsmA c26 f26 c2 f2 ltX HMR HXR HWR B2 HO hc6 hc7
      go_wp2
      go_loopw [6, 9] (fun v i wx => ∃ (k L : Nat) (A1 : Option Addr) (c1 : Nat), k ≤ 60 ∧ L ≤ 960 ∧ Hid (L = N + 600 + k) ∧ i = .int .i64 k ∧ v = .slice A1 L c1 ∧ Hid (wx.ownsRow wA.heap.size 3 1 (.slice A1 L c1) (nats (allS all ++ List.replicate k 3)).length ((nats (allS all ++ List.replicate k 3)).flatMap gI)) ∧
        Hid (M4 w.heap.size wA.heap.size wx Cb AW cW cv (.slice A6 4 c6) sv cs (fun j => if j < 3 then av j else [⟨none, 0, 0⟩])) ∧ Hid (Blk wx X 27 #[.slice AW 1 cW, .slice (some ⟨Cb, 0, none⟩) 2 2, .slice A6 4 c6]) ∧ Hid (Below w.heap.size w wx) ∧ Hid (wA.heap.size ≤ wx.heap.size)) (fun _ i _ => 60 - (intOf i).toNat)
      case atStart => exact ⟨0, L, A1, c1, Nat.zero_le _, by omega, HL, rfl, rfl, HZ0, H7, HX7, B7, HAS7⟩
      case round =>
        clear HL HZ0 H7 HX7 B7 HAS7
        obtain ⟨k, L, A1, c1, hk, hL9, HL, rfl, rfl, HZ, H8, HX8, B8, HAS8⟩ := hrel
        by_cases h2 : k < 60
        · have i2 : (k : Int) < 60 := by omega
          obtain ⟨y, hy⟩ : ∃ y, nats (allS all ++ List.replicate k 3) ++ [(3 : Int)] = y := ⟨_, rfl⟩
          have HYE := hid (show y = nats (allS all ++ List.replicate (k + 1) 3) by rw [← hy, List.replicate_succ', ← List.append_assoc]; simp only [nats, List.map_append, List.map_cons, List.map_nil]; rfl)
          have HY := hid hy
          have HYN := hid (show y.length = L + 1 by rw [HYE.out]; unfold nats; rw [List.length_map, List.length_append, allS_len, List.length_replicate, HN.out, HL.out]; omega)
          have HLB := hid (Nat.le_trans hBA0 (Nat.le_refl wA.heap.size))
          have HWS := hid B8.out.size
          have HAL := hid (show ∀ b, (Value.slice A1 L c1).ownBlock = some b → wA.heap.size ≤ b from fun b hb => (own_ge HZ.out b hb).1)
          have hL61 : L < 961 := by omega
          have hL60 : L < 960 := by have h1 := HL.out; omega
          have hAsz := HAS8.out
          clear hy
          go_wp2_with (at_builtin; refine wpList_appC elmI gI_one rfl (.tmp 44) (.tmp 45) rfl (.slice A1 L c1) _ rfl (own_below HZ.out (bnew (bnil wr) _)) [(3 : Int)] y HY rfl (Sl.fresh wr #[_] 3 1 1 rfl) rfl (by rw [HYN.out]; simp only [maxLen]; omega) (by rw [HYN.out]; omega) (Nat.le_trans hAsz (bnew (bnil wr) _).size) ?_; intro A9 c9 w9 hc9 hc9' HN9 HG9 HO9; have H9 := hid (H8.out.app HX8.out HZ.out B8.out hBA0 (bnew (bnil wr) _) HG9.out); clear HG9 HO9)
          go_roundw
          case rel => exact ⟨k + 1, L + 1, A9, c9, by omega, by omega, hid (by have := HL.out; omega), by go_num, by rw [HYN.out], hid (by have h1 := HN9.out; rw [← HYE.out]; rw [HYN.out] at h1 ⊢; exact h1), hid H9.out.1, hid H9.out.2.1, hid H9.out.2.2.1, hid (Nat.le_trans hAsz H9.out.2.2.2)⟩
          case measure => simp [intOf]; omega
        · obtain rfl : k = 60 := by omega
          have i2 : ¬ (((60 : Nat) : Int)) < 60 := by omega
          obtain ⟨vv, hres⟩ := all_res cs all HLT.out (by rw [HN.out]; omega)
          have HRES := hid hres
          clear hres
          have hLN : L = N + 660 := by have := HL.out; omega
          have HSS := hid (show Sl wr 1 A1 L (ints ((allS all ++ List.replicate 60 3).map fun x : Nat => (x : Int))) from by
            have h := HZ.out
            rw [show (nats (allS all ++ List.replicate 60 3)).length = L by unfold nats; rw [List.length_map, List.length_append, allS_len, List.length_replicate, HN.out, hLN]] at h
            exact Sl.own h)
          have hcap : L ≤ c1 := by
            obtain ⟨A', c', e, h1, _⟩ := own_form HZ.out
            injection e with _ e2 e3
            omega
          have HLEN := hid (show (allS all ++ List.replicate 60 3).length ≤ 6000 by rw [List.length_append, allS_len, List.length_replicate, HN.out]; omega)
          have HLTS := hid (apS_lt all HLT.out)
          generalize allS all ++ List.replicate 60 3 = sl at *
          have x0 : wr.cell? ⟨X, 0, none⟩ = some (.slice AW 1 cW) := HX8.out.cell 0
          have x1 : wr.cell? ⟨X, 1, none⟩ = some (.slice (some ⟨Cb, 0, none⟩) 2 2) := HX8.out.cell 1
          have x2 : wr.cell? ⟨X, 2, none⟩ = some (.slice A6 4 c6) := HX8.out.cell 2
          have HT8 := hid (HT.out.below B8.out)
          have HMM := hid H8.out.mach
          have HWW := hid (Sl.own H8.out.hw)
          have hL6 : L ≤ 6000 := by omega
          clear HZ HL hLN HAS8 hL9
          go_wp2_with fail
          refine (ran_of AW (some ⟨Cb, 0, none⟩) A6 A1 1 cW 2 2 4 c6 L c1 (countMA cs) sl wr (by decide) (by decide) (by decide) hL6 hcap HT8.out HMM.out HWW.out HSS.out HLTS.out (count_play (countMA_ok cs) sl HLEN.out).2 (play_fin _ sl)).mono ?_
          rintro e w3 hp3
          obtain ⟨v3, rs, rfl, hrow, hrs, htold, b3⟩ := hp3
          obtain ⟨A3, c3, rfl, hc3, hc3'⟩ := own_form hrow
          rw [← hrs] at HRES
          have hLD : rs.length = 10 := by have := HRES.out.len; rw [List.length_map] at this; exact this
          rw [hLD] at hrow hc3 ⊢
          have HD := hid (DsAt.mk hLD hrow htold)
          have HX3 := hid (HX8.out.below' b3)
          have H3 := hid (H8.out.below b3)
          have B3 := hid (bgo B8.out b3)
          clear hrow htold hrs b3 hLD x0 x1 x2 HT8 HMM HWW HSS H8 HX8 B8 hcap
          obtain ⟨T4, rfl, hT4⟩ := H3.out.row
          have HT4 := hid hT4
          clear hT4
          go_wp2_with fail
          go_loopw [12, 13, 14] (fun a b i wz => ∃ (k : Nat) (sm la : Int), k ≤ 10 ∧ i = .int .i64 k ∧ a = .int .i64 sm ∧ b = .int .i64 la ∧ 0 ≤ sm ∧ sm ≤ 5 * (k : Int) ∧ Hid (AllIn (countMA cs) (rs.map (·.1)) vv k sm la) ∧ Hid (Below w3.heap.size w3 wz)) (fun _ _ i _ => 10 - (intOf i).toNat)
          case atStart => exact ⟨0, 0, -1, Nat.zero_le _, rfl, rfl, rfl, by omega, by omega, hid ⟨rfl, fun j d h => absurd h (by omega)⟩, hid (bnil _)⟩
          case round =>
            obtain ⟨k, sm, la, hk, rfl, rfl, rfl, hsm0, hsm5, HA, BR⟩ := hrel
            by_cases hlt : k < 10
            · have j1 : (k : Int) < 10 := by omega
              obtain ⟨b9, d, At, ct, rfl, hd, lt9, u0, u1, u2, u3, u4, ut⟩ := (HD.out.below BR.out).at_ hlt
              have HDk := hid hd
              obtain ⟨e, o, he, htd, ho0, hov⟩ := HRES.out.told k d hd
              obtain ⟨x, hx, hxok⟩ := HRES.out.call k d hd
              obtain ⟨ht4, hxc⟩ := callMA hx
              have harg : argOf (countMA cs) d = x.args.getD 0 0 := by unfold argOf; rw [hx]
              have HARG := hid harg
              have HTD := hid htd
              rw [he] at u1
              simp only [eI] at u1
              have en : ¬ ((e : Int) = -1) := by omega
              obtain ⟨bt, rfl, hbt, t0⟩ := told_one ut htd
              rw [htd] at u4
              have u4 : wr.cell? ⟨b9, k * 5 + 4, none⟩ = some (.slice (some ⟨bt, 0, none⟩) 1 ct) := u4
              obtain ⟨br, Aa, ca, hsvx, r0, r1, ra⟩ := ((H3.out.rows d.t ht4).below BR.out).call hxc
              have c2 : wr.cell? ⟨X, 2, none⟩ = some (.slice (some ⟨T4, 0, none⟩) 4 c6) := (HX3.out.below' BR.out).cell 2
              have c3a := cell_below BR.out (HT4.out d.t ht4)
              obtain ⟨NL, hNL⟩ : ∃ NL, (th4 cs d.t).length = NL := ⟨_, rfl⟩
              have hcl4 : d.c < NL := by rw [← hNL]; exact (List.getElem?_eq_some_iff.1 hxc).1
              rw [hsvx, hNL] at c3a
              obtain ⟨cr, hcr⟩ : ∃ cr, (sv d.t).c = cr := ⟨_, rfl⟩
              rw [hcr] at c3a
              have c3 : wr.cell? ⟨T4, d.t, none⟩ = some (.slice (some ⟨br, 0, none⟩) NL cr) := c3a
              clear c3a
              have it4 : (d.t : Int) < 4 := by omega
              have icl : (d.c : Int) < (NL : Int) := by omega
              have hd4 : d.t = 3 → o = vv := fun h => by have h1 := HRES.out.last k d hd h; rw [htd] at h1; injection h1
              have HD4 := hid hd4
              have RA := hid ra
              clear hd he htd hx hxc harg ut ra hsvx hNL hcr hd4
              obtain ⟨bc, hbc⟩ : ∃ bc, wr.heap.size = bc := ⟨_, rfl⟩
              have HBC := hid hbc
              have XC0 := hid (blkN wr 46 #[.int .i64 (x.code : Int), .slice Aa x.args.length ca] bc hbc)
              clear hbc
              go_upto_region 25 with fail
              refine wp_region_held_drew (S := (fun w' => w'.cell? ⟨X, 2, none⟩ = some (.slice (some ⟨T4, 0, none⟩) 4 c6) ∧ w'.cell? ⟨b9, k * 5 + 2, none⟩ = some (.int .i64 (d.t : Int)) ∧ w'.cell? ⟨T4, d.t, none⟩ = some (.slice (some ⟨br, 0, none⟩) NL cr) ∧ w'.cell? ⟨b9, k * 5 + 3, none⟩ = some (.int .i64 (d.c : Int)) ∧ w'.cell? ⟨br, d.c * 2, none⟩ = some (.int .i64 (x.code : Int)) ∧ w'.cell? ⟨br, d.c * 2 + 1, none⟩ = some (.slice Aa x.args.length ca))) (by kernel_rfl) ?_ (fun hHeld => ?_)
              · (try dsimp only); (first | assumption | exact ⟨c2, u2, c3, u3, r0, r1⟩ | (refine sees6a ?_ c2 u2 c3 u3 r0 r1; (repeat (first | exact bnil _ | refine Below.drew ?_ | refine bnew ?_ _))))
              refine wpAnyH_take (i := 0) (oi := ⟨some 81, _, _, _, _, _⟩) (v := ?_) rfl (by kernel_rfl) (by kernel_rfl) (by kernel_rfl) (fun _ _ _ h => h) (Or.inl ⟨by rfl, ?_⟩) (by assumption) ?_
              rotate_left
              · intro w hSw; (try dsimp only at hSw); go_simp <;> with_reducible rfl
              try simp only [Act.put, List.setIfInBounds_toArray, List.set_cons_zero, List.set_cons_succ]
              refine wpAnyH_take (i := 1) (oi := ⟨some 82, _, _, _, _, _⟩) (v := ?_) rfl (by kernel_rfl) (by kernel_rfl) (by kernel_rfl) (fun _ _ _ h => h) (Or.inl ⟨by rfl, ?_⟩) (by assumption) ?_
              rotate_left
              · intro w hSw; (try dsimp only at hSw); go_simp <;> with_reducible rfl
              try simp only [Act.put, List.setIfInBounds_toArray, List.set_cons_zero, List.set_cons_succ]
              refine wpAnyH_take (i := 2) (oi := ⟨some 83, _, _, _, _, _⟩) (v := ?_) rfl (by kernel_rfl) (by kernel_rfl) (by kernel_rfl) (fun _ _ _ h => h) (Or.inl ⟨by rfl, ?_⟩) (by assumption) ?_
              rotate_left
              · intro w hSw; (try dsimp only at hSw); go_simp <;> with_reducible rfl
              try simp only [Act.put, List.setIfInBounds_toArray, List.set_cons_zero, List.set_cons_succ]
              refine wpAnyH_take (i := 3) (oi := ⟨some 84, _, _, _, _, _⟩) (v := ?_) rfl (by kernel_rfl) (by kernel_rfl) (by kernel_rfl) (fun _ _ _ h => h) (Or.inl ⟨by rfl, ?_⟩) (by assumption) ?_
              rotate_left
              · intro w hSw; (try dsimp only at hSw); go_simp <;> with_reducible rfl
              try simp only [Act.put, List.setIfInBounds_toArray, List.set_cons_zero, List.set_cons_succ]
              refine wpAnyH_take (i := 4) (oi := ⟨some 85, _, _, _, _, _⟩) (v := ?_) rfl (by kernel_rfl) (by kernel_rfl) (by kernel_rfl) (fun _ _ _ h => h) (Or.inl ⟨by rfl, ?_⟩) (by assumption) ?_
              rotate_left
              · intro w hSw; (try dsimp only at hSw); go_simp <;> with_reducible rfl
              try simp only [Act.put, List.setIfInBounds_toArray, List.set_cons_zero, List.set_cons_succ]
              refine wpAnyH_take (i := 5) (oi := ⟨some 86, _, _, _, _, _⟩) (v := ?_) rfl (by kernel_rfl) (by kernel_rfl) (by kernel_rfl) (fun _ _ _ h => h) (Or.inl ⟨by rfl, ?_⟩) (by assumption) ?_
              rotate_left
              · intro w hSw; (try dsimp only at hSw); go_simp <;> with_reducible rfl
              try simp only [Act.put, List.setIfInBounds_toArray, List.set_cons_zero, List.set_cons_succ]
              refine wpAnyH_take (i := 6) (oi := ⟨some 87, _, _, _, _, _⟩) (v := ?_) rfl (by kernel_rfl) (by kernel_rfl) (by kernel_rfl) (fun _ _ _ h => h) (Or.inl ⟨by rfl, ?_⟩) (by assumption) ?_
              rotate_left
              · intro w hSw; (try dsimp only at hSw); go_simp <;> with_reducible rfl
              try simp only [Act.put, List.setIfInBounds_toArray, List.set_cons_zero, List.set_cons_succ]
              refine wpAnyH_take (i := 7) (oi := ⟨some 88, _, _, _, _, _⟩) (v := ?_) rfl (by kernel_rfl) (by kernel_rfl) (by kernel_rfl) (fun _ _ _ h => h) (Or.inl ⟨by rfl, ?_⟩) (by assumption) ?_
              rotate_left
              · intro w hSw; (try dsimp only at hSw); go_simp <;> with_reducible rfl
              try simp only [Act.put, List.setIfInBounds_toArray, List.set_cons_zero, List.set_cons_succ]
              refine wpAnyH_take (i := 8) (oi := ⟨some 89, _, _, _, _, _⟩) (v := ?_) rfl (by kernel_rfl) (by kernel_rfl) (by kernel_rfl) (fun _ _ _ h => h) (Or.inl ⟨by rfl, ?_⟩) (by assumption) ?_
              rotate_left
              · intro w hSw; (try dsimp only at hSw); go_simp <;> with_reducible rfl
              try simp only [Act.put, List.setIfInBounds_toArray, List.set_cons_zero, List.set_cons_succ]
              refine wpAnyH_take (i := 9) (oi := ⟨some 90, _, _, _, _, _⟩) (v := ?_) rfl (by kernel_rfl) (by kernel_rfl) (by kernel_rfl) (fun _ _ _ h => h) (Or.inl ⟨by rfl, ?_⟩) (by assumption) ?_
              rotate_left
              · intro w hSw; (try dsimp only at hSw); go_simp <;> with_reducible rfl
              try simp only [Act.put, List.setIfInBounds_toArray, List.set_cons_zero, List.set_cons_succ]
              refine wpAnyH_take (i := 10) (oi := ⟨some 91, _, _, _, _, _⟩) (v := ?_) rfl (by kernel_rfl) (by kernel_rfl) (by kernel_rfl) (fun _ _ _ h => h) (Or.inl ⟨by rfl, ?_⟩) (by assumption) ?_
              rotate_left
              · intro w hSw; (try dsimp only at hSw); go_simp <;> with_reducible rfl
              try simp only [Act.put, List.setIfInBounds_toArray, List.set_cons_zero, List.set_cons_succ]
              refine wpAnyH_take (i := 11) (oi := ⟨some 92, _, _, _, _, _⟩) (v := ?_) rfl (by kernel_rfl) (by kernel_rfl) (by kernel_rfl) (fun _ _ _ h => h) (Or.inl ⟨by rfl, ?_⟩) (by assumption) ?_
              rotate_left
              · intro w hSw; (try dsimp only at hSw); go_simp <;> with_reducible rfl
              try simp only [Act.put, List.setIfInBounds_toArray, List.set_cons_zero, List.set_cons_succ]
              refine wpAnyH_take (i := 12) (oi := ⟨some 93, _, _, _, _, _⟩) (v := ?_) rfl (by kernel_rfl) (by kernel_rfl) (by kernel_rfl) (fun _ _ _ h => h) (Or.inl ⟨by rfl, ?_⟩) (by assumption) ?_
              rotate_left
              · intro w hSw; (try dsimp only at hSw); go_simp <;> with_reducible rfl
              try simp only [Act.put, List.setIfInBounds_toArray, List.set_cons_zero, List.set_cons_succ]
              refine wpAnyH_take (i := 13) (oi := ⟨some 94, _, _, _, _, _⟩) (v := ?_) rfl (by kernel_rfl) (by kernel_rfl) (by kernel_rfl) (fun _ _ _ h => h) (Or.inl ⟨by rfl, ?_⟩) (by assumption) ?_
              rotate_left
              · intro w hSw; (try dsimp only at hSw); go_simp <;> with_reducible rfl
              try simp only [Act.put, List.setIfInBounds_toArray, List.set_cons_zero, List.set_cons_succ]
              refine wpAnyH_take (i := 14) (oi := ⟨some 95, _, _, _, _, _⟩) (v := ?_) rfl (by kernel_rfl) (by kernel_rfl) (by kernel_rfl) (fun _ _ _ h => h) (Or.inl ⟨by rfl, ?_⟩) (by assumption) ?_
              rotate_left
              · intro w hSw; (try dsimp only at hSw); go_simp <;> with_reducible rfl
              try simp only [Act.put, List.setIfInBounds_toArray, List.set_cons_zero, List.set_cons_succ]
              refine wpAnyH_take (i := 15) (oi := ⟨some 96, _, _, _, _, _⟩) (v := ?_) rfl (by kernel_rfl) (by kernel_rfl) (by kernel_rfl) (fun _ _ _ h => h) (Or.inl ⟨by rfl, ?_⟩) (by assumption) ?_
              rotate_left
              · intro w hSw; (try dsimp only at hSw); go_simp <;> with_reducible rfl
              try simp only [Act.put, List.setIfInBounds_toArray, List.set_cons_zero, List.set_cons_succ]
              refine wpAnyH_ready (rs := [16]) (by kernel_rfl) (by simp) ?_
              refine AllReadyH.cons (o := ⟨some 15, _, _, _, _, _⟩) rfl (fun K hK => ?_) AllReadyH.nil
              go_simp
              refine hK.out _ _ ?_ (fun hHeld => ?_)
              · (try dsimp only); (first | assumption | exact ⟨c2, u2, c3, u3, r0, r1⟩ | (refine sees6a ?_ c2 u2 c3 u3 r0 r1; (repeat (first | exact bnil _ | refine Below.drew ?_ | refine bnew ?_ _))))
              clear hK K
              try simp only [Act.put, List.setIfInBounds_toArray, List.set_cons_zero, List.set_cons_succ]
              refine wpAnyH_ready (rs := [17]) (by kernel_rfl) (by simp) ?_
              refine AllReadyH.cons (o := ⟨none, _, _, _, _, _⟩) rfl (fun K hK => ?_) AllReadyH.nil
              go_simp
              refine hK.out _ _ ?_ (fun hHeld => ?_)
              · (try dsimp only); (first | assumption | exact ⟨c2, u2, c3, u3, r0, r1⟩ | (refine sees6a ?_ c2 u2 c3 u3 r0 r1; (repeat (first | exact bnil _ | refine Below.drew ?_ | refine bnew ?_ _))))
              clear hK K
              try dsimp only [Act.put]
              refine wpAnyH_done (by kernel_rfl) ?_ _
              rotate_left
              have hbc := HBC.out
              have B7 := hid ((bnew (bnil wr) (.cells #[.int .i64 (x.code : Int), .slice Aa x.args.length ca] 46)).drew)
              have XC := hid (show Blk ((wr.alloc (.cells #[.int .i64 (x.code : Int), .slice Aa x.args.length ca] 46)).drew) bc 46 #[.int .i64 (x.code : Int), .slice Aa x.args.length ca] from XC0.out)
              rw [hbc]
              clear hbc XC0
              generalize World.drew (World.alloc wr (.cells #[.int .i64 (x.code : Int), .slice Aa x.args.length ca] 46)) = w7 at *
              have g2 := cell_below B7.out u2
              have g4 := cell_below B7.out u4
              have g0 := cell_below B7.out t0
              clear u2 u4 t0
              have BR7 := hid (bgo BR.out B7.out)
              have RA7 := hid (own_below RA.out B7.out)
              clear c2 c3 u0 u1 u3 r0 r1 RA icl it4
              rcases hxok with rfl | ⟨a, rfl, ha1, ha5⟩
              · have xc0 : w7.cell? ⟨bc, 0, none⟩ = some (.int .i64 1) := XC.out.cell 0
                by_cases ht3 : d.t = 3
                · have h3 : (d.t : Int) = 3 := by omega
                  have hov := HD4.out ht3
                  have HN1 := hid (HA.out.next HDk.out (sm' := sm) (la' := o) (by rw [HARG.out]; simp) (fun _ => hov) (fun h => absurd ht3 h) (fun _ => hov))
                  clear hov
                  go_wp2_with fail
                  go_roundw
                  case rel => exact ⟨k + 1, sm, o, by omega, by go_num, rfl, rfl, by omega, by omega, HN1, BR7⟩
                  case measure => simp [intOf]; omega
                · have h3 : ¬ (d.t : Int) = 3 := by omega
                  have HN1 := hid (HA.out.next HDk.out (sm' := sm) (la' := la) (by rw [HARG.out]; simp) (fun h => absurd h ht3) (fun _ => rfl) (fun h => h))
                  go_wp2_with fail
                  go_roundw
                  case rel => exact ⟨k + 1, sm, la, by omega, by go_num, rfl, rfl, by omega, by omega, HN1, BR7⟩
                  case measure => simp [intOf]; omega
              · have xc0 : w7.cell? ⟨bc, 0, none⟩ = some (.int .i64 0) := XC.out.cell 0
                have xc1 : w7.cell? ⟨bc, 1, none⟩ = some (.slice Aa 1 ca) := XC.out.cell 1
                obtain ⟨ba, rfl, _, ra0⟩ := told_one (told := [a]) RA7.out rfl
                have harga : 1 ≤ argOf (countMA cs) d := by rw [HARG.out]; exact ha1
                have HAR1 := hid harga
                clear harga
                go_wp2_with fail
                go_loopw [16] (fun i wz => ∃ j : Nat, j ≤ k ∧ i = .int .i64 j ∧ Hid (Below w7.heap.size w7 wz)) (fun i _ => k - (intOf i).toNat)
                case atStart => exact ⟨0, Nat.zero_le _, rfl, hid (bnil _)⟩
                case round =>
                  obtain ⟨j, hj, rfl, BZ⟩ := hrel
                  by_cases hjk : j < k
                  · have j2 : (j : Int) < (k : Int) := by omega
                    have BRZ := hid (bgo BR7.out BZ.out)
                    obtain ⟨b10, d2, At2, ct2, hb10, hd2, lt10, z0, z1, z2, z3, z4, zt⟩ := (HD.out.below BRZ.out).at_ (show j < 10 by omega)
                    injection hb10 with hb10; injection hb10 with hb10 _ _
                    subst hb10
                    obtain ⟨e2, o2, he2, htd2, _, _⟩ := HRES.out.told j d2 hd2
                    obtain ⟨x2, hx2, hxok2⟩ := HRES.out.call j d2 hd2
                    obtain ⟨ht42, hxc2⟩ := callMA hx2
                    have hne : 1 ≤ argOf (countMA cs) d2 → o2 ≠ o := fun h1 h2 => HRES.out.dis j k d2 d (by omega) hd2 HDk.out h1 HAR1.out (by rw [htd2, HTD.out, h2])
                    have harg2 : argOf (countMA cs) d2 = x2.args.getD 0 0 := by unfold argOf; rw [hx2]
                    obtain ⟨bt2, rfl, _, t2⟩ := told_one zt htd2
                    rw [htd2] at z4
                    have z4b : wr.cell? ⟨b9, j * 5 + 4, none⟩ = some (.slice (some ⟨bt2, 0, none⟩) 1 ct2) := z4
                    clear z4
                    obtain ⟨br2, Aa2, ca2, hsv2, q0, q1, _⟩ := ((H3.out.rows d2.t ht42).below BRZ.out).call hxc2
                    have c2 : wr.cell? ⟨X, 2, none⟩ = some (.slice (some ⟨T4, 0, none⟩) 4 c6) := (HX3.out.below' BRZ.out).cell 2
                    have c3a := cell_below BRZ.out (HT4.out d2.t ht42)
                    obtain ⟨NL2, hNL2⟩ : ∃ NL, (th4 cs d2.t).length = NL := ⟨_, rfl⟩
                    have hcl42 : d2.c < NL2 := by rw [← hNL2]; exact (List.getElem?_eq_some_iff.1 hxc2).1
                    rw [hsv2, hNL2] at c3a
                    obtain ⟨cr2, hcr2⟩ : ∃ cr, (sv d2.t).c = cr := ⟨_, rfl⟩
                    rw [hcr2] at c3a
                    have c3 : wr.cell? ⟨T4, d2.t, none⟩ = some (.slice (some ⟨br2, 0, none⟩) NL2 cr2) := c3a
                    clear c3a
                    have it42 : (d2.t : Int) < 4 := by omega
                    have icl2 : (d2.c : Int) < (NL2 : Int) := by omega
                    have u4z := cell_below BZ.out g4
                    have t0z := cell_below BZ.out g0
                    clear hd2 he2 htd2 hx2 hxc2 zt hsv2 hNL2 hcr2 z0 z1 q1
                    rcases hxok2 with rfl | ⟨a2, rfl, ha12, ha52⟩
                    · have q0b : wr.cell? ⟨br2, d2.c * 2, none⟩ = some (.int .i64 1) := q0
                      clear q0
                      clear hne harg2
                      go_wp2_with fail
                      go_quiet (fail)
                      go_wp2_with fail
                      go_roundw
                      case rel => exact ⟨j + 1, by omega, by go_num, hid (below_drewN BZ.out nq)⟩
                      case measure => simp [intOf]; omega
                    · have q0b : wr.cell? ⟨br2, d2.c * 2, none⟩ = some (.int .i64 0) := q0
                      clear q0
                      have hno := hne (by rw [harg2]; exact ha12)
                      have e9 : (o2 == o) = false := beqF hno
                      have e8 : (o == o2) = false := beqF (fun e => hno e.symm)
                      clear hne harg2 hno
                      go_wp2_with fail
                      go_quiet (fail)
                      go_wp2_with fail
                      go_roundw
                      case rel => exact ⟨j + 1, by omega, by go_num, hid (below_drewN BZ.out nq)⟩
                      case measure => simp [intOf]; omega
                  · obtain rfl : j = k := by omega
                    have j2 : ¬ (j : Int) < (j : Int) := by omega
                    have BRZ := hid (bgo BR7.out BZ.out)
                    have g2 := cell_below BZ.out g2
                    have g4 := cell_below BZ.out g4
                    have g0 := cell_below BZ.out g0
                    by_cases ht3 : d.t = 3
                    · have h3 : (d.t : Int) = 3 := by omega
                      have hov := HD4.out ht3
                      have HN1 := hid (HA.out.next HDk.out (sm' := sm + a) (la' := o) (by rw [HARG.out]; rfl) (fun _ => hov) (fun h => absurd ht3 h) (fun _ => hov))
                      clear hov
                      go_wp2_with fail
                      go_roundw
                      case rel => exact ⟨j + 1, sm + a, o, by omega, by go_num, rfl, rfl, by omega, by omega, HN1, BRZ⟩
                      case measure => simp [intOf]; omega
                    · have h3 : ¬ (d.t : Int) = 3 := by omega
                      have HN1 := hid (HA.out.next HDk.out (sm' := sm + a) (la' := la) (by rw [HARG.out]; rfl) (fun h => absurd h ht3) (fun _ => rfl) (fun h => h))
                      go_wp2_with fail
                      go_roundw
                      case rel => exact ⟨j + 1, sm + a, la, by omega, by go_num, rfl, rfl, by omega, by omega, HN1, BRZ⟩
                      case measure => simp [intOf]; omega
            · obtain rfl : k = 10 := by omega
              have j1 : ¬ (((10 : Nat) : Int)) < 10 := by omega
              have hsmv : sm = vv := by
                rw [HA.out.sm, HRES.out.sum, List.take_of_length_le (by rw [HRES.out.len]; exact Nat.le_refl _)]
              have hlav : la = vv := by
                obtain ⟨k', d', h1, h2⟩ := HRES.out.has
                have hl := (List.getElem?_eq_some_iff.1 h1).1
                rw [HRES.out.len] at hl
                exact HA.out.la k' d' hl h1 h2
              subst hsmv
              subst hlav
              have e9 : (la == la) = true := by simp
              go_wp2_with fail
              go_ret
              exact ⟨rfl, bgo B3.out BR.out⟩
end Go.Proofs.YtnoinojhocicjaaDoor
