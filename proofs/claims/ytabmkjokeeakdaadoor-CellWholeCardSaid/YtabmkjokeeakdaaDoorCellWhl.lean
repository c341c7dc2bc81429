/-
  CellWhole: its walk. Written by gen_cellw.py.
-/
import Derived.Test.YtabmkjokeeakdaaDoorCellWho
import Derived.Test.YtabmkjokeeakdaaDoorRan
import Derived.Test.YtabmkjokeeakdaaDoorSched
import Derived.Test.YtabmkjokeeakdaaDoorDsAt
import Derived.Deep.RegionHeld
namespace Go.Proofs.YtabmkjokeeakdaaDoor
open Go.RowKit
set_option linter.unusedVariables false

def aheadB (d d' : Dg) : Bool := match d.e with | none => false | some e => decide (e < d'.b)
abbrev dgV (d : Dg) (v : Value) : Value := .agg #[.int .i64 (d.b : Int), .int .i64 (eI d.e), .int .i64 (d.t : Int), .int .i64 (d.c : Int), v]
set_option maxHeartbeats 1000000 in
theorem ahead_of (d d' : Dg) (v v' : Value) (w : World) : Calls Tryd.prog 21 #[dgV d v, dgV d' v'] w fun e w' => e = .returned (.bool (aheadB d d')) ∧ Below w.heap.size w w' := by
  obtain ⟨X, hX⟩ : ∃ X, w.heap.size = X := ⟨_, rfl⟩
  obtain ⟨Y, hY⟩ : ∃ Y, X + 1 = Y := ⟨_, rfl⟩
  have BN := hid (bnew (bnew (bnil w) (.cells #[.int .i64 (d.b : Int), .int .i64 (eI d.e), .int .i64 (d.t : Int), .int .i64 (d.c : Int), v] 41)) (.cells #[.int .i64 (d'.b : Int), .int .i64 (eI d'.e), .int .i64 (d'.t : Int), .int .i64 (d'.c : Int), v'] 41))
  have HXB := hid ((blkN w 41 #[.int .i64 (d.b : Int), .int .i64 (eI d.e), .int .i64 (d.t : Int), .int .i64 (d.c : Int), v] X hX).alloc (.cells #[.int .i64 (d'.b : Int), .int .i64 (eI d'.e), .int .i64 (d'.t : Int), .int .i64 (d'.c : Int), v'] 41))
  have HYB := hid (blkN (w.alloc (.cells #[.int .i64 (d.b : Int), .int .i64 (eI d.e), .int .i64 (d.t : Int), .int .i64 (d.c : Int), v] 41)) 41 #[.int .i64 (d'.b : Int), .int .i64 (eI d'.e), .int .i64 (d'.t : Int), .int .i64 (d'.c : Int), v'] Y (by rw [World.size_alloc, hX, hY]))
  go_enter Tryd.func21, Tryd.ntmps21
  go_upto_region 1 with fail
  generalize World.alloc (World.alloc w _) _ = w2 at *
  have x1 : w2.cell? ⟨X, 1, none⟩ = some (.int .i64 (eI d.e)) := HXB.out.cell 1
  have y0 : w2.cell? ⟨Y, 0, none⟩ = some (.int .i64 (d'.b : Int)) := HYB.out.cell 0
  try rw [hX]
  try rw [hY]
  clear hX hY HXB HYB
  cases he : d.e with
  | none =>
    rw [he] at x1
    have x1 : w2.cell? ⟨X, 1, none⟩ = some (.int .i64 (-1)) := x1
    have hr : aheadB d d' = false := by unfold aheadB; rw [he]
    have HRR := hid hr
    clear he hr
    go_wp2_with fail
    go_ret
    exact ⟨(by rw [HRR.out]; rfl), BN.out⟩
  | some e =>
    rw [he] at x1
    have x1 : w2.cell? ⟨X, 1, none⟩ = some (.int .i64 (e : Int)) := x1
    have en : ((e : Int) != -1) = true := bneT (by omega)
    have en2 : ((e : Int) == -1) = false := beqF (by omega)
    rcases Nat.lt_or_ge e d'.b with h | h
    · have hr : aheadB d d' = true := by unfold aheadB; rw [he]; exact decide_eq_true h
      have hd : decide ((e : Int) < (d'.b : Int)) = true := decide_eq_true (by omega)
      have HRR := hid hr
      clear he hr
      go_wp2_with fail
      go_ret
      exact ⟨(by rw [HRR.out]; exact congrArg (fun b => Ending.returned (.bool b)) hd), BN.out⟩
    · have hr : aheadB d d' = false := by unfold aheadB; rw [he]; exact decide_eq_false (by omega)
      have hd : decide ((e : Int) < (d'.b : Int)) = false := decide_eq_false (by omega)
      have HRR := hid hr
      clear he hr
      go_wp2_with fail
      go_ret
      exact ⟨(by rw [HRR.out]; exact congrArg (fun b => Ending.returned (.bool b)) hd), BN.out⟩
/-- what the law keeps of a call -/
def tnum (d : Dg) : Int := if d.t ≠ 0 ∧ d.e.isSome = true then (vnum d : Int) else 0
theorem cntI_leq {α : Type} (f : Nat → α → Bool) : ∀ (l : List α) (k : Nat), cntI f k l ≤ l.length
  | [], _ => Nat.le_refl _
  | x :: l, k => by
    have := cntI_leq f l (k + 1)
    unfold cntI b2n
    rw [List.length_cons]
    split <;> omega
/-- no more calls than there are -/
theorem ds_few {m : Mach} {N : Nat} (hN : ∀ calls ∈ m.threads, calls.length ≤ N) (l : List Nat) : (doings (play m l).evs).length ≤ m.threads.length * N := by
  have hU := (play_di m l).uniq
  have hnd := nodup_at (P := fun _ : Dg => true) (f := fun d => d.t * N + d.c) (doings (play m l).evs) (fun j k a b ha hb _ _ e => by
    have h1 := (play_c hN l ha).1
    have h2 := (play_c hN l hb).1
    have e : a.t * N + a.c = b.t * N + b.c := e
    have ht : a.t = b.t := by
      have e1 : (a.t * N + a.c) / N = a.t := by rw [Nat.mul_comm, Nat.mul_add_div (by omega), Nat.div_eq_of_lt h1]; rfl
      have e2 : (b.t * N + b.c) / N = b.t := by rw [Nat.mul_comm, Nat.mul_add_div (by omega), Nat.div_eq_of_lt h2]; rfl
      rw [← e1, ← e2, e]
    rw [ht] at e
    exact hU j k a b ha hb ht (by omega))
  rw [List.filter_eq_self.2 (fun _ _ => rfl)] at hnd
  have h := nodup_count (fun _ (_ : Unit) => true) (m.threads.length * N) (List.replicate (m.threads.length * N) ()) _ (by simp) hnd (fun t ht => by
    obtain ⟨d, hd, rfl⟩ := List.mem_map.1 ht
    obtain ⟨k, hk⟩ := List.getElem?_of_mem hd
    obtain ⟨h1, h2⟩ := play_c hN l hk
    refine ⟨(), ?_, rfl⟩
    rw [List.getElem?_replicate, if_pos]
    have : (d.t + 1) * N ≤ m.threads.length * N := Nat.mul_le_mul_right N h2
    rw [Nat.add_mul, Nat.one_mul] at this
    omega)
  rw [List.length_map] at h
  have h2 := cntI_leq (fun _ (_ : Unit) => true) (List.replicate (m.threads.length * N) ()) 0
  rw [List.length_replicate] at h2
  omega
theorem tnum_next {ds : List Dg} {k : Nat} {d : Dg} (h : ds[k]? = some d) : (ds.take (k + 1)).map tnum = (ds.take k).map tnum ++ [tnum d] := by
  rw [List.take_add_one, h, List.map_append]; rfl
theorem set_last {l : List Int} {k : Nat} (h : l.length = k) (a b : Int) : (l ++ [a]).set k b = l ++ [b] := by
  subst h; rw [List.set_append_right _ _ (Nat.le_refl _), Nat.sub_self]; rfl
theorem rc_eq (n v j : Nat) (hj : j < n) (hv : v ≠ 0) : rc n v j = 10 * (v : Int) + (j : Int) := by
  unfold rc cW0 cargs vget
  rw [if_neg hv, show ((j : Int) + 1).toNat = j + 1 by omega]
  show (((List.range n).map fun k : Nat => 10 * (((v - 1 : Nat) : Int) + 1) + (k : Int)).getD j 0) = _
  rw [List.getD_eq_getElem?_getD, List.getElem?_map, List.getElem?_range hj]
  show 10 * (((v - 1 : Nat) : Int) + 1) + (j : Int) = _
  omega
theorem rc_zero (n j : Nat) (hj : j < n) : rc n 0 j = 0 := by
  unfold rc cW0 vget
  rw [if_pos rfl, show ((j : Int) + 1).toNat = j + 1 by omega]
  show (List.replicate n (0 : Int)).getD j 0 = 0
  rw [List.getD_eq_getElem?_getD, List.getElem?_replicate, if_pos hj]; rfl
theorem recs_len (n v : Nat) : (recs n v).length = n := by unfold recs; simp
theorem recs_at {n v j : Nat} (hj : j < n) : (recs n v)[j]? = some (rc n v j) := by unfold recs; rw [List.getElem?_map, List.getElem?_range hj]; rfl
set_option maxHeartbeats 8000000 in
set_option maxRecDepth 100000 in
theorem law_cellWhole (xi : Int) (S : Option Addr) (p q : Nat) (bs : List UInt8) (w : World) (ha : -9223372036854775808 ≤ xi) (ha1 : xi ≤ 9223372036854775807)
    (hp : p ≤ q) (hq : q ≤ maxLen) (_ : q * 1 ≤ 140737488351232) (hS : Sl w 1 S p (byts bs)) (hT : STab w) :
    Calls Tryd.prog 11 #[.int .i64 xi, .slice S p q] w fun e w' => e = .returned (.bool true) ∧ Below w.heap.size w w' := by
  have HS := hid hS; have HT := hid hT
  clear hS hT
  have hpl : p ≤ 9223372036854775807 := by unfold maxLen at hq; omega
  clear hq
  have m1 := pk_lt xi 6 (by decide)
  obtain ⟨n, hR⟩ : ∃ n : Nat, wrap64 (1 + (pk xi 6 : Int)) = (n : Int) ∧ n = 1 + pk xi 6 := ⟨1 + pk xi 6, by rw [wrap_mid (by omega) (by omega)]; omega, rfl⟩
  have h1 : 1 ≤ n := by omega
  have h6 : n ≤ 6 := by omega
  have HR := hid hR.1
  clear hR m1
  go_enter Tryd.func11, Tryd.ntmps11
  go_wp2_with fail
  refine (picked xi 6 w (by decide) ha ha1 (by decide)).mono ?_
  rintro e w' ⟨rfl, rfl⟩
  go_wp2_with fail
  try rw [HR.out]
  refine (cell_machine n 12 8 w h1 h6 (by decide) (by decide) HT.out).mono ?_
  rintro e w1 hp1
  obtain ⟨AW, cW, Cb, T, cv1, tv, av, rfl, hW, hM, b1⟩ := hp1
  have HM := hid hM; have B1 := hid b1; have HW := hid hW
  clear hM b1 hW
  obtain ⟨X, hX⟩ : ∃ X, w1.heap.size = X := ⟨_, rfl⟩
  go_upto_region 3 with fail
  have HX0 := hid (blkN w1 29 #[.slice AW (n + 1) cW, .slice (some ⟨Cb, 0, none⟩) 2 2, .slice (some ⟨T, 0, none⟩) 4 4] X hX)
  have BA := hid (bgo B1.out (bnew (bnil w1) (.cells #[.slice AW (n + 1) cW, .slice (some ⟨Cb, 0, none⟩) 2 2, .slice (some ⟨T, 0, none⟩) 4 4] 29)))
  have HMN := hid (HM.out.below (bnew (bnil w1) (.cells #[.slice AW (n + 1) cW, .slice (some ⟨Cb, 0, none⟩) 2 2, .slice (some ⟨T, 0, none⟩) 4 4] 29)))
  have HWA := hid (own_below HW.out (bnew (bnil w1) (.cells #[.slice AW (n + 1) cW, .slice (some ⟨Cb, 0, none⟩) 2 2, .slice (some ⟨T, 0, none⟩) 4 4] 29)))
  try rw [hX]
  generalize World.alloc w1 _ = wA at *
  clear hX HM HW
  go_wp2_with fail
  refine (schedule_n S p q 4 1200 bs wA hpl (by decide) (by decide) (by decide) (HS.out.below BA.out)).mono ?_
  rintro e w2 ⟨v, rfl, ho⟩
  have hl4 : (schedN bs 4 1200).length ≤ 1200 := by rw [schedN_len]; omega
  have HLT := hid (schedN_lt bs (N := 4) (by decide) 1200)
  generalize schedN bs 4 1200 = all at *
  obtain ⟨Al, cl, rfl, hcl, hcl2⟩ := ho.form
  have HO := hid ho; clear ho
  rw [show (nats all).length = all.length by simp] at *
  obtain ⟨N, hN⟩ : ∃ N, all.length = N := ⟨_, rfl⟩
  rw [hN] at HO hl4 hcl ⊢
  have HN := hid hN; clear hN hcl hcl2
  have HMR := hid (cmach_at (HMN.out.below HO.out.below) h1 h6 (by decide) (by decide))
  have HWR := hid (own_below HWA.out HO.out.below)
  have HXR := hid (HX0.out.below' HO.out.below)
  have B2 := hid (bgo BA.out HO.out.below)
  have HTR := hid (HT.out.below B2.out)
  have hcap : N ≤ cl := by obtain ⟨_, _, e, h1, _⟩ := HO.out.form; injection e with e1 e2 e3; rw [List.length_map, HN.out] at h1; omega
  have HSL := hid (show Sl w2 1 Al N (ints (all.map fun x : Nat => (x : Int))) from by have h := HO.out.own; rw [show (nats all).length = N by unfold nats; rw [List.length_map, HN.out]] at h; exact Sl.own h)
  have HWL := hid (show Sl w2 1 AW (n + 1) (ints (cmach n 12 8).words) from Sl.own HWR.out)
  have y0 : w2.cell? ⟨X, 0, none⟩ = some (.slice AW (n + 1) cW) := HXR.out.cell 0
  have y1 : w2.cell? ⟨X, 1, none⟩ = some (.slice (some ⟨Cb, 0, none⟩) 2 2) := HXR.out.cell 1
  have y2 : w2.cell? ⟨X, 2, none⟩ = some (.slice (some ⟨T, 0, none⟩) 4 4) := HXR.out.cell 2
  have HCW := hid (cell_whole h1 h6 all 8)
  clear HO
  go_wp2_with fail
  refine (ran_of AW (some ⟨Cb, 0, none⟩) (some ⟨T, 0, none⟩) Al (n + 1) cW 2 2 4 4 N cl (cmach n 12 8) all w2 (by omega) (by decide) (by decide) (by omega) hcap HTR.out HMR.out HWL.out HSL.out HLT.out HCW.out.2 (play_fin _ all)).mono ?_
  rintro e w3 ⟨v3, rs, rfl, hrow, hrs, htold, b3⟩
  obtain ⟨A3, c3, rfl, hc3, hc3'⟩ := own_form hrow
  obtain ⟨LD, hLD⟩ : ∃ L, rs.length = L := ⟨_, rfl⟩
  rw [hLD] at hrow hc3 ⊢
  have HD := hid (DsAt.mk hLD hrow htold)
  have HRS := hid hrs
  have B3 := hid (bgo B2.out b3)
  have HUQ := hid (play_di (cmach n 12 8) all).uniq
  have HC := hid HCW.out.1
  have HDL := hid (show (doings (play (cmach n 12 8) all).evs).length = LD by rw [← hrs, List.length_map, hLD])
  have hLM : LD ≤ 48 := by
    have h := ds_few (m := cmach n 12 8) (N := 12) (fun calls hc => by
      obtain ⟨j, hj⟩ := List.getElem?_of_mem hc
      by_cases h0 : j = 0
      · subst h0; rw [cth_0] at hj; injection hj with hj; subst hj; simp
      · rw [cth_1 h0 hj]; simp) all
    rw [← hrs, List.length_map, hLD] at h
    exact h
  generalize doings (play (cmach n 12 8) all).evs = ds at *
  clear hrow htold hrs hLD b3 y0 y1 y2 hcap hc3 hc3' HSL HWL HTR HXR HWR HMR HMN HX0 BA HWA HLT HCW
  go_wp2_with fail
  go_loopw [11, 12] (fun u v wx => ∃ (k : Nat) (A1 : Option Addr) (c1 : Nat), k ≤ LD ∧ v = .int .i64 k ∧ u = .slice A1 k c1 ∧ Hid (Ow w3 wx 3 1 gI (.slice A1 k c1) ((ds.take k).map tnum))) (fun _ v _ => LD - (intOf v).toNat)
  case atStart => exact ⟨0, none, 0, Nat.zero_le _, rfl, rfl, hid (Ow.nil _ _ _ _)⟩
  case round =>
    obtain ⟨k, A1, c1, hk, rfl, rfl, HO⟩ := hrel
    by_cases hlt : k < LD
    · have j1 : (k : Int) < (LD : Int) := by omega
      obtain ⟨d, hd⟩ : ∃ d, ds[k]? = some d := ⟨_, List.getElem?_eq_getElem (by rw [HDL.out]; exact hlt)⟩
      have HDk := hid hd
      have HTK := hid (show ((ds.take k).map tnum).length = k by rw [List.length_map, List.length_take, HDL.out]; omega)
      obtain ⟨y, hy⟩ : ∃ y, (ds.take k).map tnum ++ [(0 : Int)] = y := ⟨_, rfl⟩
      have HY := hid hy
      have HYN := hid (show y.length = k + 1 by rw [← hy, List.length_append, HTK.out]; rfl)
      clear hy hd
      go_upto_region 12 with (at_builtin; refine wpList_appY elmI gI_one rfl (.tmp 46) (.tmp 47) rfl (.slice A1 k c1) _ rfl (HO.out.alloc _) [(0 : Int)] y HY rfl (Sl.fresh wr #[_] 3 1 1 rfl) (by go_num) (by rw [HYN.out]; simp only [maxLen]; omega) (by rw [HYN.out]; omega) ?_; intro A4 c4 w4 hc4 hc5 HN1 _ _)
      rw [HYN.out] at hc4 HN1 ⊢
      clear HO
      have HO := HN1; clear HN1
      obtain ⟨b9, d', At, ct, rfl, hd, lt9, -, s1, s2, -, s4, ut⟩ := HD.out.at_ hlt
      rw [HRS.out, HDk.out] at hd
      injection hd with hd
      subst hd
      have u1 := cell_below HO.out.below s1
      have u2 := cell_below HO.out.below s2
      have S4 := hid s4
      clear s1 s2 s4
      by_cases h0 : d.t = 0
      · have q1 : ((d.t : Int) == 0) = true := by rw [h0]; rfl
        have HYE := hid (show y = (ds.take (k + 1)).map tnum by rw [← HY.out, tnum_next HDk.out]; unfold tnum; rw [if_neg (by intro h; exact h.1 h0)])
        clear ut lt9 h0 u1
        go_wp2_with fail
        go_roundw
        case rel => exact ⟨k + 1, A4, c4, by omega, by go_num, rfl, hid (by rw [← HYE.out]; exact HO.out)⟩
        case measure => simp [intOf]; omega
      have q1 : ((d.t : Int) == 0) = false := beqF (by omega)
      cases he : d.e with
      | none =>
        rw [he] at u1
        simp only [eI] at u1
        have HYE := hid (show y = (ds.take (k + 1)).map tnum by rw [← HY.out, tnum_next HDk.out]; unfold tnum; rw [if_neg (by intro h; rw [he] at h; exact absurd h.2 (by decide))])
        clear ut lt9 h0 he
        go_wp2_with fail
        go_roundw
        case rel => exact ⟨k + 1, A4, c4, by omega, by go_num, rfl, hid (by rw [← HYE.out]; exact HO.out)⟩
        case measure => simp [intOf]; omega
      | some e =>
        rw [he] at u1
        simp only [eI] at u1
        have q2 : ((e : Int) == -1) = false := beqF (by omega)
        obtain ⟨v, hv⟩ := HC.out k d e HDk.out h0 he
        have hvt := hv.told
        have hv12 := hv.le
        have htn : tnum d = (v : Int) := by
          obtain ⟨b, eo, t, c, told⟩ := d
          simp only at hvt
          subst hvt
          unfold tnum
          rw [if_pos ⟨h0, by rw [he]; rfl⟩, recs_num h1]
        rw [hvt, recs_len] at ut
        have s4 := S4.out
        rw [hvt, recs_len] at s4
        have hl : (recs n v).length = n := recs_len n v
        obtain ⟨bt, c', e1, hbt, hct⟩ := own_at ut (by omega)
        injection e1 with e1 ex1 ex2
        subst e1
        clear ex1 ex2
        have hcells : ∀ j, j < n → w3.cell? ⟨bt, j, none⟩ = some (.int .i64 (rc n v j)) := fun j hj => hct j _ (by
          have h := flatMap_at gI 1 (fun _ => rfl) (recs n v) j 0 _ (recs_at hj) (by decide)
          rw [Nat.mul_one, Nat.add_zero] at h
          rw [h]; rfl)
        have HCE := hid hcells
        have u4 := cell_below HO.out.below s4
        have S4 := hid s4
        have t0 := cell_below HO.out.below (hcells 0 (by omega))
        obtain ⟨X0, hX0⟩ : ∃ X0, rc n v 0 = X0 := ⟨_, rfl⟩
        rw [hX0] at t0
        have hX1 : X0 = 10 * (v : Int) := by
          rw [← hX0]
          by_cases hv0 : v = 0
          · subst hv0; rw [rc_zero n 0 (by omega)]; rfl
          · rw [rc_eq n v 0 (by omega) hv0]; omega
        have g1 : ¬ X0 < 0 := by omega
        have g2 : ¬ (200 : Int) < X0 := by omega
        have HX1 := hid hX1
        have HYE := hid (show y.set k (v : Int) = (ds.take (k + 1)).map tnum by rw [← HY.out, tnum_next HDk.out, set_last HTK.out, htn])
        clear ut lt9 h0 he hv hvt htn hl hct hcells hX0 s4
        obtain ⟨bo, c5, e1, hbo, -⟩ := own_at HO.out.own (by rw [HYN.out]; omega)
        injection e1 with e1 ex1 ex2
        subst e1
        clear ex1 ex2
        have hyk : y[k]? = some 0 := by
          rw [← HY.out, List.getElem?_append_right (by rw [HTK.out]; exact Nat.le_refl _), HTK.out, Nat.sub_self]; rfl
        obtain ⟨f1, f2⟩ := HO.out.cellG (sz := 1) (g := gI) (j := 0) (fun _ => rfl) hyk rfl
        rw [Nat.mul_one, Nat.add_zero] at f1 f2
        have HO5 := hid (HO.out.setG (sz := 1) (g := gI) (y := (v : Int)) (u := .int .i64 (v : Int)) (j := 0) (fun _ => rfl) hyk (by decide) rfl)
        rw [Nat.mul_one, Nat.add_zero, HYE.out] at HO5
        have hvq : X0 / 10 = (v : Int) := by omega
        have HVQ := hid hvq
        clear hyk hvq hX1
        go_upto_region 15 with fail
        go_upto_region 16 with fail
        rw [HVQ.out]
        obtain ⟨w5, hw5⟩ : ∃ w5, w4.setCell ⟨bo, k, none⟩ (.int .i64 (v : Int)) = w5 := ⟨_, rfl⟩
        rw [hw5] at HO5 ⊢
        have CH := hid (show Chg (fun b => b = bo) w4 w5 by rw [← hw5]; exact (Chg.refl (fun b => b = bo) w4).setCell (p := ⟨bo, k, none⟩) (fun _ => rfl) _)
        have z4 := cell_below HO5.out.below S4.out
        have tk : w5.cell? ⟨bo, k, none⟩ = some (.int .i64 (v : Int)) := by rw [← hw5]; exact World.cell?_setCell_same _ _ _ f1
        clear hw5 f1 f2 HO CH t0 u1 u2 u4 g1 g2
        go_wp2_with fail
        go_loopw [13] (fun x wx => ∃ j : Nat, j ≤ n ∧ x = .int .i64 j ∧ wx = w5) (fun x _ => n - (intOf x).toNat)
        case atStart => exact ⟨0, Nat.zero_le _, rfl, rfl⟩
        case round =>
          obtain ⟨j, hj, rfl, rfl⟩ := hrel
          by_cases hjn : j < n
          · have j3 : (j : Int) < (n : Int) := by omega
            have tj := cell_below HO5.out.below (HCE.out j hjn)
            by_cases hv0 : v = 0
            · have q3 : ((v : Int) == 0) = true := by rw [hv0]; rfl
              have tj0 : wr.cell? ⟨bt, j, none⟩ = some (.int .i64 0) := by rw [tj, hv0, rc_zero n j hjn]
              clear hv0 tj
              go_wp2_with fail
              go_roundw
              case rel => exact ⟨j + 1, by omega, by go_num, trivial⟩
              case measure => simp [intOf]; omega
            · have q3 : ((v : Int) == 0) = false := beqF (by omega)
              have tj2 : wr.cell? ⟨bt, j, none⟩ = some (.int .i64 (10 * (v : Int) + (j : Int))) := by rw [tj, rc_eq n v j hjn hv0]
              clear hv0 tj
              go_wp2_with fail
              go_roundw
              case rel => exact ⟨j + 1, by omega, by go_num, trivial⟩
              case measure => simp [intOf]; omega
          · obtain rfl : n = j := by omega
            have j3 : ¬ (n : Int) < (n : Int) := by omega
            clear tk z4
            go_wp2_with fail
            go_roundw
            case rel => exact ⟨k + 1, some ⟨bo, 0, none⟩, c4, by omega, by go_num, rfl, HO5⟩
            case measure => simp [intOf]; omega
    · obtain rfl : LD = k := by omega
      have j1 : ¬ (LD : Int) < (LD : Int) := by omega
      have HOA := hid (show Ow w3 wr 3 1 gI (.slice A1 LD c1) (ds.map tnum) from by have h := HO.out; rw [List.take_of_length_le (by rw [HDL.out]; exact Nat.le_refl _)] at h; exact h)
      have B4 := hid (bgo B3.out HO.out.below)
      clear HO
      obtain ⟨w4, hw4⟩ : ∃ w4, w4 = wr := ⟨_, rfl⟩
      rw [← hw4] at HOA B4 ⊢
      clear hw4
      go_wp2_with fail
      go_loopw [15] (fun x wx => ∃ i : Nat, i ≤ LD ∧ x = .int .i64 i ∧ Hid (Below w4.heap.size w4 wx)) (fun x _ => LD - (intOf x).toNat)
      case atStart => exact ⟨0, Nat.zero_le _, rfl, hid (bnil _)⟩
      case round =>
        obtain ⟨i, hi, rfl, BR⟩ := hrel
        by_cases hil : i < LD
        · have j1 : (i : Int) < (LD : Int) := by omega
          obtain ⟨b9, d, At, ct, rfl, hd, lt9, s0, s1, s2, s3, s4, ut⟩ := HD.out.at_ hil
          rw [HRS.out] at hd
          have HDI := hid hd
          have BW := hid (bgo HOA.out.below BR.out)
          have u1 := cell_below BW.out s1
          have u2 := cell_below BW.out s2
          obtain ⟨bo, c5, e1, hbo, hco⟩ := own_at HOA.out.own (by rw [List.length_map, HDL.out]; omega)
          injection e1 with e1 ex1 ex2
          subst e1
          clear ex1 ex2
          have HCO := hid (show ∀ (k : Nat) (y : Dg), ds[k]? = some y → w4.cell? ⟨bo, k, none⟩ = some (.int .i64 (tnum y)) from fun k y hy => hco k _ (by
            have h := flatMap_at gI 1 (fun _ => rfl) (ds.map tnum) k 0 (tnum y) (by rw [List.getElem?_map, hy]; rfl) (by decide)
            rw [Nat.mul_one, Nat.add_zero] at h
            rw [h]; rfl))
          have SD := hid (show w3.cell? ⟨b9, i * 5, none⟩ = some (.int .i64 (d.b : Int)) ∧ w3.cell? ⟨b9, i * 5 + 1, none⟩ = some (.int .i64 (eI d.e)) ∧ w3.cell? ⟨b9, i * 5 + 2, none⟩ = some (.int .i64 (d.t : Int)) ∧ w3.cell? ⟨b9, i * 5 + 3, none⟩ = some (.int .i64 (d.c : Int)) ∧ w3.cell? ⟨b9, i * 5 + 4, none⟩ = some (.slice At d.told.length ct) from ⟨s0, s1, s2, s3, s4⟩)
          clear hco s0 s1 s2 s3 s4 ut lt9 hd hbo
          by_cases h0 : d.t = 0
          · have q1 : ((d.t : Int) == 0) = true := by rw [h0]; rfl
            clear h0 u1
            go_wp2_with fail
            go_roundw
            case rel => exact ⟨i + 1, by omega, by go_num, BR⟩
            case measure => simp [intOf]; omega
          have q1 : ((d.t : Int) == 0) = false := beqF (by omega)
          cases he : d.e with
          | none =>
            rw [he] at u1
            simp only [eI] at u1
            clear h0 he
            go_wp2_with fail
            go_roundw
            case rel => exact ⟨i + 1, by omega, by go_num, BR⟩
            case measure => simp [intOf]; omega
          | some e =>
            rw [he] at u1
            simp only [eI] at u1
            have q2 : ((e : Int) == -1) = false := beqF (by omega)
            obtain ⟨v, hv⟩ := HC.out i d e HDI.out h0 he
            have hvt := hv.told
            have hv12 := hv.le
            have htn : tnum d = (v : Int) := by
              obtain ⟨b, eo, t, c, told⟩ := d
              simp only at hvt
              subst hvt
              unfold tnum
              rw [if_pos ⟨h0, by rw [he]; rfl⟩, recs_num h1]
            have HTI := hid (show w4.cell? ⟨bo, i, none⟩ = some (.int .i64 (v : Int)) by rw [← htn]; exact HCO.out i d HDI.out)
            have t0 := cell_below BR.out HTI.out
            have HLO := hid hv.low
            obtain ⟨idx, hidx⟩ : ∃ idx, 1 ≤ v → ∃ dp : Dg, ds[idx]? = some dp ∧ dp.t = 0 ∧ dp.c = v - 1 ∧ dp.b ≤ e := by
              by_cases h : 1 ≤ v
              · obtain ⟨k', dp, g⟩ := hv.put h
                exact ⟨k', fun _ => ⟨dp, g⟩⟩
              · exact ⟨0, fun h' => absurd h' h⟩
            have HIX := hid hidx
            have HEE := hid he
            clear h0 he hv hvt htn hidx
            obtain ⟨bb, hbb⟩ : ∃ bb, ((v : Int) == 0) = bb := ⟨_, rfl⟩
            have HBB := hid (show bb = decide (v = 0) by rw [← hbb]; by_cases h : v = 0 <;> simp [h])
            go_upto_region 29 with fail
            clear hbb u1 u2 t0 q1 q2 BW
            go_wp2_with fail
            go_loopw [16, 17] (fun x z wx => ∃ (b : Bool) (j : Nat), j ≤ LD ∧ x = .bool b ∧ z = .int .i64 j ∧ Hid (b = (decide (v = 0) || decide (idx < j))) ∧ Hid (Below w4.heap.size w4 wx)) (fun _ z _ => LD - (intOf z).toNat)
            case atStart => exact ⟨bb, 0, Nat.zero_le _, rfl, rfl, hid (by rw [HBB.out]; simp), BR⟩
            case round =>
              clear BR HBB
              obtain ⟨b, j, hj, rfl, rfl, HB, BR⟩ := hrel
              by_cases hjl : j < LD
              · have j2 : (j : Int) < (LD : Int) := by omega
                obtain ⟨b8, y, Ay, cy, e8, hy, -, s0, s1, s2, s3, s4, -⟩ := HD.out.at_ hjl
                injection e8 with e8
                injection e8 with e8
                subst e8
                rw [HRS.out] at hy
                have HYJ := hid hy
                have BW := hid (bgo HOA.out.below BR.out)
                obtain ⟨r0, r1, r2, r3, r4⟩ := SD.out
                have u0 := cell_below BW.out s0; have u1 := cell_below BW.out s1; have u2 := cell_below BW.out s2; have u3 := cell_below BW.out s3; have u4 := cell_below BW.out s4
                have v0 := cell_below BW.out r0; have v1 := cell_below BW.out r1; have v2 := cell_below BW.out r2; have v3 := cell_below BW.out r3; have v4 := cell_below BW.out r4
                have o1 := cell_below BR.out (HCO.out j y hy)
                have o2 := cell_below BR.out HTI.out
                rw [HEE.out] at v1
                replace v1 : wr.cell? ⟨b9, i * 5 + 1, none⟩ = some (.int .i64 (e : Int)) := v1
                obtain ⟨Z, hZ⟩ : ∃ Z, tnum y = Z := ⟨_, rfl⟩
                rw [hZ] at o1
                have HZ := hid hZ
                obtain ⟨LY, hLY⟩ : ∃ L, y.told.length = L := ⟨_, rfl⟩
                obtain ⟨LI, hLI⟩ : ∃ L, d.told.length = L := ⟨_, rfl⟩
                rw [hLY] at u4
                rw [hLI] at v4
                obtain ⟨EY, hEY⟩ : ∃ E, eI y.e = E := ⟨_, rfl⟩
                rw [hEY] at u1
                have HAW := hid (show ∀ w9, Calls Tryd.prog 21 #[.agg #[.int .i64 (y.b : Int), .int .i64 EY, .int .i64 (y.t : Int), .int .i64 (y.c : Int), .slice Ay LY cy], .agg #[.int .i64 (d.b : Int), .int .i64 (e : Int), .int .i64 (d.t : Int), .int .i64 (d.c : Int), .slice At LI ct]] w9 (fun e9 w8 => e9 = .returned (.bool (aheadB y d)) ∧ Below w9.heap.size w9 w8) from fun w9 => by
                  have h := ahead_of y d (.slice Ay LY cy) (.slice At LI ct) w9
                  unfold dgV at h
                  rw [HEE.out, hEY] at h
                  exact h)
                have HLJ := hid (show aheadB y d = true → lowb y ≤ 2 * v from fun h => by
                  unfold aheadB at h
                  cases hye : y.e with
                  | none => rw [hye] at h; cases h
                  | some e2 => rw [hye] at h; exact HLO.out j y e2 hy hye (of_decide_eq_true h))
                clear hy s0 s1 s2 s3 s4 r0 r1 r2 r3 r4 hZ hLY hLI hEY
                by_cases ht : y.t = 0
                · have qt : ((y.t : Int) == 0) = true := by rw [ht]; rfl
                  by_cases hc : (y.c : Int) = (v : Int) - 1
                  · have qc : ((y.c : Int) == (v : Int) - 1) = true := by rw [hc]; exact beq_self_eq_true _
                    have hv1 : 1 ≤ v := by omega
                    obtain ⟨dp, g1, g2, g3, g4⟩ := HIX.out hv1
                    obtain rfl : idx = j := HUQ.out idx j dp y g1 HYJ.out (by rw [g2, ht]) (by omega)
                    have hdy : dp = y := by have h := HYJ.out; rw [g1] at h; injection h
                    subst hdy
                    have qb : (dp.b : Int) ≤ (e : Int) := by omega
                    have HBN := hid (show true = (decide (v = 0) || decide (idx < idx + 1)) by simp)
                    clear hv1 g1 g2 g3 g4 ht hc
                    go_upto_region 32 with fail
                    go_quiet (fail)
                    go_upto_region 33 with fail
                    go_quiet (fail)
                    go_wp2_with fail
                    go_roundw
                    case rel => exact ⟨true, idx + 1, by omega, rfl, by go_num, HBN, hid (below_drewN BR.out _)⟩
                    case measure => simp [intOf]; omega
                  · have qc : ((y.c : Int) == (v : Int) - 1) = false := beqF hc
                    have hne : 1 ≤ v → idx ≠ j := fun h e => by
                      obtain ⟨dp, g1, g2, g3, g4⟩ := HIX.out h
                      rw [e, HYJ.out] at g1
                      injection g1 with g1
                      subst g1
                      omega
                    have HBN := hid (show b = (decide (v = 0) || decide (idx < j + 1)) by
                      rw [HB.out]
                      by_cases h : v = 0
                      · simp [h]
                      · have := hne (by omega)
                        rw [show decide (idx < j + 1) = decide (idx < j) from decide_eq_decide.2 (by omega)])
                    have HYT := hid ht
                    clear hne ht hc HB
                    go_upto_region 32 with fail
                    go_quiet (fail)
                    have HB1 := hid (below_drewN BR.out nq)
                    have b0 := below_drewN (bnil wr) nq
                    replace u0 := cell_below b0 u0
                    replace u1 := cell_below b0 u1
                    replace u2 := cell_below b0 u2
                    replace u3 := cell_below b0 u3
                    replace u4 := cell_below b0 u4
                    replace v0 := cell_below b0 v0
                    replace v1 := cell_below b0 v1
                    replace v2 := cell_below b0 v2
                    replace v3 := cell_below b0 v3
                    replace v4 := cell_below b0 v4
                    replace o1 := cell_below b0 o1
                    replace o2 := cell_below b0 o2
                    obtain ⟨wp, hwp⟩ : ∃ wp, wr.drewN nq = wp := ⟨_, rfl⟩
                    rw [hwp] at HB1 u0 u1 u2 u3 u4 v0 v1 v2 v3 v4 o1 o2 ⊢
                    clear hwp b0 BR
                    cases hah : aheadB y d with
                    | false =>
                      have HAH := hid (show ∀ w9, Calls Tryd.prog 21 #[.agg #[.int .i64 (y.b : Int), .int .i64 EY, .int .i64 (y.t : Int), .int .i64 (y.c : Int), .slice Ay LY cy], .agg #[.int .i64 (d.b : Int), .int .i64 (e : Int), .int .i64 (d.t : Int), .int .i64 (d.c : Int), .slice At LI ct]] w9 (fun e9 w8 => e9 = .returned (.bool false) ∧ Below w9.heap.size w9 w8) from fun w9 => by
                        have h := HAW.out w9
                        rw [hah] at h
                        exact h)
                      clear hah HAW
                      go_upto_region 35 with fail
                      refine wp_region_held_drew (S := (fun w' => w'.cell? ⟨b9, j * 5, none⟩ = some (.int .i64 (y.b : Int)) ∧ w'.cell? ⟨b9, j * 5 + 1, none⟩ = some (.int .i64 EY) ∧ w'.cell? ⟨b9, j * 5 + 2, none⟩ = some (.int .i64 (y.t : Int)) ∧ w'.cell? ⟨b9, j * 5 + 3, none⟩ = some (.int .i64 (y.c : Int)) ∧ w'.cell? ⟨b9, j * 5 + 4, none⟩ = some (.slice Ay LY cy) ∧ w'.cell? ⟨b9, i * 5, none⟩ = some (.int .i64 (d.b : Int)) ∧ w'.cell? ⟨b9, i * 5 + 1, none⟩ = some (.int .i64 (e : Int)) ∧ w'.cell? ⟨b9, i * 5 + 2, none⟩ = some (.int .i64 (d.t : Int)) ∧ w'.cell? ⟨b9, i * 5 + 3, none⟩ = some (.int .i64 (d.c : Int)) ∧ w'.cell? ⟨b9, i * 5 + 4, none⟩ = some (.slice At LI ct) ∧ w'.cell? ⟨bo, j, none⟩ = some (.int .i64 Z) ∧ w'.cell? ⟨bo, i, none⟩ = some (.int .i64 (v : Int)))) (by kernel_rfl) ?_ (fun hHeld => ?_)
                      · (try dsimp only); (first | assumption | exact ⟨u0, u1, u2, u3, u4, v0, v1, v2, v3, v4, o1, o2⟩ | exact ⟨cell_below b9x u0, cell_below b9x u1, cell_below b9x u2, cell_below b9x u3, cell_below b9x u4, cell_below b9x v0, cell_below b9x v1, cell_below b9x v2, cell_below b9x v3, cell_below b9x v4, cell_below b9x o1, cell_below b9x o2⟩)
                      refine wpAnyH_take (i := 0) (oi := ⟨some 198, _, _, _, _, _⟩) (v := ?_) rfl (by kernel_rfl) (by kernel_rfl) (by kernel_rfl) (fun _ _ _ h => h) (Or.inl ⟨by rfl, ?_⟩) (by assumption) ?_
                      rotate_left
                      · intro w hSw; (try dsimp only at hSw); go_simp <;> with_reducible rfl
                      try simp only [Act.put, List.setIfInBounds_toArray, List.set_cons_zero, List.set_cons_succ]
                      refine wpAnyH_take (i := 1) (oi := ⟨some 199, _, _, _, _, _⟩) (v := ?_) rfl (by kernel_rfl) (by kernel_rfl) (by kernel_rfl) (fun _ _ _ h => h) (Or.inl ⟨by rfl, ?_⟩) (by assumption) ?_
                      rotate_left
                      · intro w hSw; (try dsimp only at hSw); go_simp <;> with_reducible rfl
                      try simp only [Act.put, List.setIfInBounds_toArray, List.set_cons_zero, List.set_cons_succ]
                      refine wpAnyH_take (i := 2) (oi := ⟨some 200, _, _, _, _, _⟩) (v := ?_) rfl (by kernel_rfl) (by kernel_rfl) (by kernel_rfl) (fun _ _ _ h => h) (Or.inl ⟨by rfl, ?_⟩) (by assumption) ?_
                      rotate_left
                      · intro w hSw; (try dsimp only at hSw); go_simp <;> with_reducible rfl
                      try simp only [Act.put, List.setIfInBounds_toArray, List.set_cons_zero, List.set_cons_succ]
                      refine wpAnyH_take (i := 3) (oi := ⟨some 201, _, _, _, _, _⟩) (v := ?_) rfl (by kernel_rfl) (by kernel_rfl) (by kernel_rfl) (fun _ _ _ h => h) (Or.inl ⟨by rfl, ?_⟩) (by assumption) ?_
                      rotate_left
                      · intro w hSw; (try dsimp only at hSw); go_simp <;> with_reducible rfl
                      try simp only [Act.put, List.setIfInBounds_toArray, List.set_cons_zero, List.set_cons_succ]
                      refine wpAnyH_take (i := 4) (oi := ⟨some 202, _, _, _, _, _⟩) (v := ?_) rfl (by kernel_rfl) (by kernel_rfl) (by kernel_rfl) (fun _ _ _ h => h) (Or.inl ⟨by rfl, ?_⟩) (by assumption) ?_
                      rotate_left
                      · intro w hSw; (try dsimp only at hSw); go_simp <;> with_reducible rfl
                      try simp only [Act.put, List.setIfInBounds_toArray, List.set_cons_zero, List.set_cons_succ]
                      refine wpAnyH_take (i := 5) (oi := ⟨some 203, _, _, _, _, _⟩) (v := ?_) rfl (by kernel_rfl) (by kernel_rfl) (by kernel_rfl) (fun _ _ _ h => h) (Or.inl ⟨by rfl, ?_⟩) (by assumption) ?_
                      rotate_left
                      · intro w hSw; (try dsimp only at hSw); go_simp <;> with_reducible rfl
                      try simp only [Act.put, List.setIfInBounds_toArray, List.set_cons_zero, List.set_cons_succ]
                      refine wpAnyH_take (i := 6) (oi := ⟨some 204, _, _, _, _, _⟩) (v := ?_) rfl (by kernel_rfl) (by kernel_rfl) (by kernel_rfl) (fun _ _ _ h => h) (Or.inl ⟨by rfl, ?_⟩) (by assumption) ?_
                      rotate_left
                      · intro w hSw; (try dsimp only at hSw); go_simp <;> with_reducible rfl
                      try simp only [Act.put, List.setIfInBounds_toArray, List.set_cons_zero, List.set_cons_succ]
                      refine wpAnyH_take (i := 7) (oi := ⟨some 205, _, _, _, _, _⟩) (v := ?_) rfl (by kernel_rfl) (by kernel_rfl) (by kernel_rfl) (fun _ _ _ h => h) (Or.inl ⟨by rfl, ?_⟩) (by assumption) ?_
                      rotate_left
                      · intro w hSw; (try dsimp only at hSw); go_simp <;> with_reducible rfl
                      try simp only [Act.put, List.setIfInBounds_toArray, List.set_cons_zero, List.set_cons_succ]
                      refine wpAnyH_ready (rs := [8]) (by kernel_rfl) (by simp) ?_
                      refine AllReadyH.cons (o := ⟨some 206, _, _, _, _, _⟩) rfl (fun K hK => ?_) AllReadyH.nil
                      go_simp
                      refine (HAH.out _).mono ?_; rintro e9 w9 ⟨rfl, b9x⟩; have b9x := bgo (bnil wp).drew b9x
                      go_wp2_with fail
                      refine hK.out _ _ ?_ (fun hHeld => ?_)
                      · (try dsimp only); (first | assumption | exact ⟨u0, u1, u2, u3, u4, v0, v1, v2, v3, v4, o1, o2⟩ | exact ⟨cell_below b9x u0, cell_below b9x u1, cell_below b9x u2, cell_below b9x u3, cell_below b9x u4, cell_below b9x v0, cell_below b9x v1, cell_below b9x v2, cell_below b9x v3, cell_below b9x v4, cell_below b9x o1, cell_below b9x o2⟩)
                      clear hK K
                      try simp only [Act.put, List.setIfInBounds_toArray, List.set_cons_zero, List.set_cons_succ]
                      refine wpAnyH_take (i := 9) (oi := ⟨some 207, _, _, _, _, _⟩) (v := ?_) rfl (by kernel_rfl) (by kernel_rfl) (by kernel_rfl) (fun _ _ _ h => h) (Or.inl ⟨by rfl, ?_⟩) (by assumption) ?_
                      rotate_left
                      · intro w hSw; (try dsimp only at hSw); go_simp <;> with_reducible rfl
                      try simp only [Act.put, List.setIfInBounds_toArray, List.set_cons_zero, List.set_cons_succ]
                      refine wpAnyH_take (i := 10) (oi := ⟨some 208, _, _, _, _, _⟩) (v := undef) rfl (by kernel_rfl) (by kernel_rfl) (by kernel_rfl) (fun _ _ _ h => h) (Or.inr ⟨by rfl, rfl⟩) (by assumption) ?_
                      try simp only [Act.put, List.setIfInBounds_toArray, List.set_cons_zero, List.set_cons_succ]
                      refine wpAnyH_take (i := 11) (oi := ⟨some 209, _, _, _, _, _⟩) (v := undef) rfl (by kernel_rfl) (by kernel_rfl) (by kernel_rfl) (fun _ _ _ h => h) (Or.inr ⟨by rfl, rfl⟩) (by assumption) ?_
                      try simp only [Act.put, List.setIfInBounds_toArray, List.set_cons_zero, List.set_cons_succ]
                      refine wpAnyH_take (i := 12) (oi := ⟨some 210, _, _, _, _, _⟩) (v := undef) rfl (by kernel_rfl) (by kernel_rfl) (by kernel_rfl) (fun _ _ _ h => h) (Or.inr ⟨by rfl, rfl⟩) (by assumption) ?_
                      try simp only [Act.put, List.setIfInBounds_toArray, List.set_cons_zero, List.set_cons_succ]
                      refine wpAnyH_take (i := 13) (oi := ⟨some 211, _, _, _, _, _⟩) (v := undef) rfl (by kernel_rfl) (by kernel_rfl) (by kernel_rfl) (fun _ _ _ h => h) (Or.inr ⟨by rfl, rfl⟩) (by assumption) ?_
                      try simp only [Act.put, List.setIfInBounds_toArray, List.set_cons_zero, List.set_cons_succ]
                      refine wpAnyH_take (i := 14) (oi := ⟨some 212, _, _, _, _, _⟩) (v := undef) rfl (by kernel_rfl) (by kernel_rfl) (by kernel_rfl) (fun _ _ _ h => h) (Or.inr ⟨by rfl, rfl⟩) (by assumption) ?_
                      try simp only [Act.put, List.setIfInBounds_toArray, List.set_cons_zero, List.set_cons_succ]
                      refine wpAnyH_take (i := 15) (oi := ⟨some 213, _, _, _, _, _⟩) (v := undef) rfl (by kernel_rfl) (by kernel_rfl) (by kernel_rfl) (fun _ _ _ h => h) (Or.inr ⟨by rfl, rfl⟩) (by assumption) ?_
                      try simp only [Act.put, List.setIfInBounds_toArray, List.set_cons_zero, List.set_cons_succ]
                      refine wpAnyH_take (i := 16) (oi := ⟨some 214, _, _, _, _, _⟩) (v := undef) rfl (by kernel_rfl) (by kernel_rfl) (by kernel_rfl) (fun _ _ _ h => h) (Or.inr ⟨by rfl, rfl⟩) (by assumption) ?_
                      try simp only [Act.put, List.setIfInBounds_toArray, List.set_cons_zero, List.set_cons_succ]
                      refine wpAnyH_take (i := 17) (oi := ⟨some 215, _, _, _, _, _⟩) (v := undef) rfl (by kernel_rfl) (by kernel_rfl) (by kernel_rfl) (fun _ _ _ h => h) (Or.inr ⟨by rfl, rfl⟩) (by assumption) ?_
                      try simp only [Act.put, List.setIfInBounds_toArray, List.set_cons_zero, List.set_cons_succ]
                      refine wpAnyH_take (i := 18) (oi := ⟨some 216, _, _, _, _, _⟩) (v := undef) rfl (by kernel_rfl) (by kernel_rfl) (by kernel_rfl) (fun _ _ _ h => h) (Or.inr ⟨by rfl, rfl⟩) (by assumption) ?_
                      try simp only [Act.put, List.setIfInBounds_toArray, List.set_cons_zero, List.set_cons_succ]
                      refine wpAnyH_take (i := 19) (oi := ⟨some 217, _, _, _, _, _⟩) (v := undef) rfl (by kernel_rfl) (by kernel_rfl) (by kernel_rfl) (fun _ _ _ h => h) (Or.inr ⟨by rfl, rfl⟩) (by assumption) ?_
                      try simp only [Act.put, List.setIfInBounds_toArray, List.set_cons_zero, List.set_cons_succ]
                      refine wpAnyH_take (i := 20) (oi := ⟨some 218, _, _, _, _, _⟩) (v := undef) rfl (by kernel_rfl) (by kernel_rfl) (by kernel_rfl) (fun _ _ _ h => h) (Or.inr ⟨by rfl, rfl⟩) (by assumption) ?_
                      try simp only [Act.put, List.setIfInBounds_toArray, List.set_cons_zero, List.set_cons_succ]
                      refine wpAnyH_take (i := 21) (oi := ⟨some 219, _, _, _, _, _⟩) (v := ?_) rfl (by kernel_rfl) (by kernel_rfl) (by kernel_rfl) (fun _ _ _ h => h) (Or.inl ⟨by rfl, ?_⟩) (by assumption) ?_
                      rotate_left
                      · intro w hSw; (try dsimp only at hSw); go_simp <;> with_reducible rfl
                      try simp only [Act.put, List.setIfInBounds_toArray, List.set_cons_zero, List.set_cons_succ]
                      refine wpAnyH_done (by kernel_rfl) ?_ _
                      rotate_left
                      all_goals
                        have HBX := hid (bgo HB1.out b9x)
                        go_wp2_with fail
                        go_roundw
                        case rel => exact ⟨b, j + 1, by omega, rfl, by go_num, HBN, HBX⟩
                        case measure => simp [intOf]; omega
                    | true =>
                      have HAH := hid (show ∀ w9, Calls Tryd.prog 21 #[.agg #[.int .i64 (y.b : Int), .int .i64 EY, .int .i64 (y.t : Int), .int .i64 (y.c : Int), .slice Ay LY cy], .agg #[.int .i64 (d.b : Int), .int .i64 (e : Int), .int .i64 (d.t : Int), .int .i64 (d.c : Int), .slice At LI ct]] w9 (fun e9 w8 => e9 = .returned (.bool true) ∧ Below w9.heap.size w9 w8) from fun w9 => by
                        have h := HAW.out w9
                        rw [hah] at h
                        exact h)
                      have qw : IntKind.i64.wrap ((v : Int) - 1) = (v : Int) - 1 := IntWalk.i64_in _ (by omega)
                      have qg : ¬ (v : Int) - 1 < (y.c : Int) := (by have h := HLJ.out hah; unfold lowb at h; rw [if_pos HYT.out] at h; omega)
                      clear hah HAW
                      go_upto_region 35 with fail
                      refine wp_region_held_drew (S := (fun w' => w'.cell? ⟨b9, j * 5, none⟩ = some (.int .i64 (y.b : Int)) ∧ w'.cell? ⟨b9, j * 5 + 1, none⟩ = some (.int .i64 EY) ∧ w'.cell? ⟨b9, j * 5 + 2, none⟩ = some (.int .i64 (y.t : Int)) ∧ w'.cell? ⟨b9, j * 5 + 3, none⟩ = some (.int .i64 (y.c : Int)) ∧ w'.cell? ⟨b9, j * 5 + 4, none⟩ = some (.slice Ay LY cy) ∧ w'.cell? ⟨b9, i * 5, none⟩ = some (.int .i64 (d.b : Int)) ∧ w'.cell? ⟨b9, i * 5 + 1, none⟩ = some (.int .i64 (e : Int)) ∧ w'.cell? ⟨b9, i * 5 + 2, none⟩ = some (.int .i64 (d.t : Int)) ∧ w'.cell? ⟨b9, i * 5 + 3, none⟩ = some (.int .i64 (d.c : Int)) ∧ w'.cell? ⟨b9, i * 5 + 4, none⟩ = some (.slice At LI ct) ∧ w'.cell? ⟨bo, j, none⟩ = some (.int .i64 Z) ∧ w'.cell? ⟨bo, i, none⟩ = some (.int .i64 (v : Int)))) (by kernel_rfl) ?_ (fun hHeld => ?_)
                      · (try dsimp only); (first | assumption | exact ⟨u0, u1, u2, u3, u4, v0, v1, v2, v3, v4, o1, o2⟩ | exact ⟨cell_below b9x u0, cell_below b9x u1, cell_below b9x u2, cell_below b9x u3, cell_below b9x u4, cell_below b9x v0, cell_below b9x v1, cell_below b9x v2, cell_below b9x v3, cell_below b9x v4, cell_below b9x o1, cell_below b9x o2⟩)
                      refine wpAnyH_take (i := 0) (oi := ⟨some 198, _, _, _, _, _⟩) (v := ?_) rfl (by kernel_rfl) (by kernel_rfl) (by kernel_rfl) (fun _ _ _ h => h) (Or.inl ⟨by rfl, ?_⟩) (by assumption) ?_
                      rotate_left
                      · intro w hSw; (try dsimp only at hSw); go_simp <;> with_reducible rfl
                      try simp only [Act.put, List.setIfInBounds_toArray, List.set_cons_zero, List.set_cons_succ]
                      refine wpAnyH_take (i := 1) (oi := ⟨some 199, _, _, _, _, _⟩) (v := ?_) rfl (by kernel_rfl) (by kernel_rfl) (by kernel_rfl) (fun _ _ _ h => h) (Or.inl ⟨by rfl, ?_⟩) (by assumption) ?_
                      rotate_left
                      · intro w hSw; (try dsimp only at hSw); go_simp <;> with_reducible rfl
                      try simp only [Act.put, List.setIfInBounds_toArray, List.set_cons_zero, List.set_cons_succ]
                      refine wpAnyH_take (i := 2) (oi := ⟨some 200, _, _, _, _, _⟩) (v := ?_) rfl (by kernel_rfl) (by kernel_rfl) (by kernel_rfl) (fun _ _ _ h => h) (Or.inl ⟨by rfl, ?_⟩) (by assumption) ?_
                      rotate_left
                      · intro w hSw; (try dsimp only at hSw); go_simp <;> with_reducible rfl
                      try simp only [Act.put, List.setIfInBounds_toArray, List.set_cons_zero, List.set_cons_succ]
                      refine wpAnyH_take (i := 3) (oi := ⟨some 201, _, _, _, _, _⟩) (v := ?_) rfl (by kernel_rfl) (by kernel_rfl) (by kernel_rfl) (fun _ _ _ h => h) (Or.inl ⟨by rfl, ?_⟩) (by assumption) ?_
                      rotate_left
                      · intro w hSw; (try dsimp only at hSw); go_simp <;> with_reducible rfl
                      try simp only [Act.put, List.setIfInBounds_toArray, List.set_cons_zero, List.set_cons_succ]
                      refine wpAnyH_take (i := 4) (oi := ⟨some 202, _, _, _, _, _⟩) (v := ?_) rfl (by kernel_rfl) (by kernel_rfl) (by kernel_rfl) (fun _ _ _ h => h) (Or.inl ⟨by rfl, ?_⟩) (by assumption) ?_
                      rotate_left
                      · intro w hSw; (try dsimp only at hSw); go_simp <;> with_reducible rfl
                      try simp only [Act.put, List.setIfInBounds_toArray, List.set_cons_zero, List.set_cons_succ]
                      refine wpAnyH_take (i := 5) (oi := ⟨some 203, _, _, _, _, _⟩) (v := ?_) rfl (by kernel_rfl) (by kernel_rfl) (by kernel_rfl) (fun _ _ _ h => h) (Or.inl ⟨by rfl, ?_⟩) (by assumption) ?_
                      rotate_left
                      · intro w hSw; (try dsimp only at hSw); go_simp <;> with_reducible rfl
                      try simp only [Act.put, List.setIfInBounds_toArray, List.set_cons_zero, List.set_cons_succ]
                      refine wpAnyH_take (i := 6) (oi := ⟨some 204, _, _, _, _, _⟩) (v := ?_) rfl (by kernel_rfl) (by kernel_rfl) (by kernel_rfl) (fun _ _ _ h => h) (Or.inl ⟨by rfl, ?_⟩) (by assumption) ?_
                      rotate_left
                      · intro w hSw; (try dsimp only at hSw); go_simp <;> with_reducible rfl
                      try simp only [Act.put, List.setIfInBounds_toArray, List.set_cons_zero, List.set_cons_succ]
                      refine wpAnyH_take (i := 7) (oi := ⟨some 205, _, _, _, _, _⟩) (v := ?_) rfl (by kernel_rfl) (by kernel_rfl) (by kernel_rfl) (fun _ _ _ h => h) (Or.inl ⟨by rfl, ?_⟩) (by assumption) ?_
                      rotate_left
                      · intro w hSw; (try dsimp only at hSw); go_simp <;> with_reducible rfl
                      try simp only [Act.put, List.setIfInBounds_toArray, List.set_cons_zero, List.set_cons_succ]
                      refine wpAnyH_ready (rs := [8]) (by kernel_rfl) (by simp) ?_
                      refine AllReadyH.cons (o := ⟨some 206, _, _, _, _, _⟩) rfl (fun K hK => ?_) AllReadyH.nil
                      go_simp
                      refine (HAH.out _).mono ?_; rintro e9 w9 ⟨rfl, b9x⟩; have b9x := bgo (bnil wp).drew b9x
                      go_wp2_with fail
                      refine hK.out _ _ ?_ (fun hHeld => ?_)
                      · (try dsimp only); (first | assumption | exact ⟨u0, u1, u2, u3, u4, v0, v1, v2, v3, v4, o1, o2⟩ | exact ⟨cell_below b9x u0, cell_below b9x u1, cell_below b9x u2, cell_below b9x u3, cell_below b9x u4, cell_below b9x v0, cell_below b9x v1, cell_below b9x v2, cell_below b9x v3, cell_below b9x v4, cell_below b9x o1, cell_below b9x o2⟩)
                      clear hK K
                      try simp only [Act.put, List.setIfInBounds_toArray, List.set_cons_zero, List.set_cons_succ]
                      refine wpAnyH_take (i := 9) (oi := ⟨some 207, _, _, _, _, _⟩) (v := ?_) rfl (by kernel_rfl) (by kernel_rfl) (by kernel_rfl) (fun _ _ _ h => h) (Or.inl ⟨by rfl, ?_⟩) (by assumption) ?_
                      rotate_left
                      · intro w hSw; (try dsimp only at hSw); go_simp <;> with_reducible rfl
                      try simp only [Act.put, List.setIfInBounds_toArray, List.set_cons_zero, List.set_cons_succ]
                      refine wpAnyH_take (i := 10) (oi := ⟨some 208, _, _, _, _, _⟩) (v := ?_) rfl (by kernel_rfl) (by kernel_rfl) (by kernel_rfl) (fun _ _ _ h => h) (Or.inl ⟨by rfl, ?_⟩) (by assumption) ?_
                      rotate_left
                      · intro w hSw; (try dsimp only at hSw); go_simp <;> with_reducible rfl
                      try simp only [Act.put, List.setIfInBounds_toArray, List.set_cons_zero, List.set_cons_succ]
                      refine wpAnyH_take (i := 11) (oi := ⟨some 209, _, _, _, _, _⟩) (v := ?_) rfl (by kernel_rfl) (by kernel_rfl) (by kernel_rfl) (fun _ _ _ h => h) (Or.inl ⟨by rfl, ?_⟩) (by assumption) ?_
                      rotate_left
                      · intro w hSw; (try dsimp only at hSw); go_simp <;> with_reducible rfl
                      try simp only [Act.put, List.setIfInBounds_toArray, List.set_cons_zero, List.set_cons_succ]
                      refine wpAnyH_take (i := 12) (oi := ⟨some 210, _, _, _, _, _⟩) (v := ?_) rfl (by kernel_rfl) (by kernel_rfl) (by kernel_rfl) (fun _ _ _ h => h) (Or.inl ⟨by rfl, ?_⟩) (by assumption) ?_
                      rotate_left
                      · intro w hSw; (try dsimp only at hSw); go_simp <;> with_reducible rfl
                      try simp only [Act.put, List.setIfInBounds_toArray, List.set_cons_zero, List.set_cons_succ]
                      refine wpAnyH_take (i := 13) (oi := ⟨some 211, _, _, _, _, _⟩) (v := ?_) rfl (by kernel_rfl) (by kernel_rfl) (by kernel_rfl) (fun _ _ _ h => h) (Or.inl ⟨by rfl, ?_⟩) (by assumption) ?_
                      rotate_left
                      · intro w hSw; (try dsimp only at hSw); go_simp <;> with_reducible rfl
                      try simp only [Act.put, List.setIfInBounds_toArray, List.set_cons_zero, List.set_cons_succ]
                      refine wpAnyH_take (i := 14) (oi := ⟨some 212, _, _, _, _, _⟩) (v := ?_) rfl (by kernel_rfl) (by kernel_rfl) (by kernel_rfl) (fun _ _ _ h => h) (Or.inl ⟨by rfl, ?_⟩) (by assumption) ?_
                      rotate_left
                      · intro w hSw; (try dsimp only at hSw); go_simp <;> with_reducible rfl
                      try simp only [Act.put, List.setIfInBounds_toArray, List.set_cons_zero, List.set_cons_succ]
                      refine wpAnyH_take (i := 15) (oi := ⟨some 213, _, _, _, _, _⟩) (v := ?_) rfl (by kernel_rfl) (by kernel_rfl) (by kernel_rfl) (fun _ _ _ h => h) (Or.inl ⟨by rfl, ?_⟩) (by assumption) ?_
                      rotate_left
                      · intro w hSw; (try dsimp only at hSw); go_simp <;> with_reducible rfl
                      try simp only [Act.put, List.setIfInBounds_toArray, List.set_cons_zero, List.set_cons_succ]
                      refine wpAnyH_take (i := 16) (oi := ⟨some 214, _, _, _, _, _⟩) (v := ?_) rfl (by kernel_rfl) (by kernel_rfl) (by kernel_rfl) (fun _ _ _ h => h) (Or.inl ⟨by rfl, ?_⟩) (by assumption) ?_
                      rotate_left
                      · intro w hSw; (try dsimp only at hSw); go_simp <;> with_reducible rfl
                      try simp only [Act.put, List.setIfInBounds_toArray, List.set_cons_zero, List.set_cons_succ]
                      refine wpAnyH_take (i := 17) (oi := ⟨some 215, _, _, _, _, _⟩) (v := ?_) rfl (by kernel_rfl) (by kernel_rfl) (by kernel_rfl) (fun _ _ _ h => h) (Or.inl ⟨by rfl, ?_⟩) (by assumption) ?_
                      rotate_left
                      · intro w hSw; (try dsimp only at hSw); go_simp <;> with_reducible rfl
                      try simp only [Act.put, List.setIfInBounds_toArray, List.set_cons_zero, List.set_cons_succ]
                      refine wpAnyH_take (i := 18) (oi := ⟨some 216, _, _, _, _, _⟩) (v := ?_) rfl (by kernel_rfl) (by kernel_rfl) (by kernel_rfl) (fun _ _ _ h => h) (Or.inl ⟨by rfl, ?_⟩) (by assumption) ?_
                      rotate_left
                      · intro w hSw; (try dsimp only at hSw); go_simp <;> with_reducible rfl
                      try simp only [Act.put, List.setIfInBounds_toArray, List.set_cons_zero, List.set_cons_succ]
                      refine wpAnyH_take (i := 19) (oi := ⟨some 217, _, _, _, _, _⟩) (v := ?_) rfl (by kernel_rfl) (by kernel_rfl) (by kernel_rfl) (fun _ _ _ h => h) (Or.inl ⟨by rfl, ?_⟩) (by assumption) ?_
                      rotate_left
                      · intro w hSw; (try dsimp only at hSw); go_simp <;> with_reducible rfl
                      try simp only [Act.put, List.setIfInBounds_toArray, List.set_cons_zero, List.set_cons_succ]
                      refine wpAnyH_take (i := 20) (oi := ⟨some 218, _, _, _, _, _⟩) (v := ?_) rfl (by kernel_rfl) (by kernel_rfl) (by kernel_rfl) (fun _ _ _ h => h) (Or.inl ⟨by rfl, ?_⟩) (by assumption) ?_
                      rotate_left
                      · intro w hSw; (try dsimp only at hSw); go_simp <;> with_reducible rfl
                      try simp only [Act.put, List.setIfInBounds_toArray, List.set_cons_zero, List.set_cons_succ]
                      refine wpAnyH_take (i := 21) (oi := ⟨some 219, _, _, _, _, _⟩) (v := ?_) rfl (by kernel_rfl) (by kernel_rfl) (by kernel_rfl) (fun _ _ _ h => h) (Or.inl ⟨by rfl, ?_⟩) (by assumption) ?_
                      rotate_left
                      · intro w hSw; (try dsimp only at hSw); go_simp <;> with_reducible rfl
                      try simp only [Act.put, List.setIfInBounds_toArray, List.set_cons_zero, List.set_cons_succ]
                      refine wpAnyH_done (by kernel_rfl) ?_ _
                      rotate_left
                      all_goals
                        have HBX := hid (bgo HB1.out b9x)
                        go_wp2_with fail
                        go_roundw
                        case rel => exact ⟨b, j + 1, by omega, rfl, by go_num, HBN, HBX⟩
                        case measure => simp [intOf]; omega
                · have qt : ((y.t : Int) == 0) = false := beqF (by omega)
                  have hne : 1 ≤ v → idx ≠ j := fun h e => by
                    obtain ⟨dp, g1, g2, g3, g4⟩ := HIX.out h
                    rw [e, HYJ.out] at g1
                    injection g1 with g1
                    subst g1
                    exact ht g2
                  have HBN := hid (show b = (decide (v = 0) || decide (idx < j + 1)) by
                    rw [HB.out]
                    by_cases h : v = 0
                    · simp [h]
                    · have := hne (by omega)
                      rw [show decide (idx < j + 1) = decide (idx < j) from decide_eq_decide.2 (by omega)])
                  have HYT := hid (show ¬ y.t = 0 from ht)
                  clear hne ht HB
                  go_upto_region 32 with fail
                  go_quiet (fail)
                  have HB1 := hid (below_drewN BR.out nq)
                  have b0 := below_drewN (bnil wr) nq
                  replace u0 := cell_below b0 u0
                  replace u1 := cell_below b0 u1
                  replace u2 := cell_below b0 u2
                  replace u3 := cell_below b0 u3
                  replace u4 := cell_below b0 u4
                  replace v0 := cell_below b0 v0
                  replace v1 := cell_below b0 v1
                  replace v2 := cell_below b0 v2
                  replace v3 := cell_below b0 v3
                  replace v4 := cell_below b0 v4
                  replace o1 := cell_below b0 o1
                  replace o2 := cell_below b0 o2
                  obtain ⟨wp, hwp⟩ : ∃ wp, wr.drewN nq = wp := ⟨_, rfl⟩
                  rw [hwp] at HB1 u0 u1 u2 u3 u4 v0 v1 v2 v3 v4 o1 o2 ⊢
                  clear hwp b0 BR
                  cases hah : aheadB y d with
                  | false =>
                    have HAH := hid (show ∀ w9, Calls Tryd.prog 21 #[.agg #[.int .i64 (y.b : Int), .int .i64 EY, .int .i64 (y.t : Int), .int .i64 (y.c : Int), .slice Ay LY cy], .agg #[.int .i64 (d.b : Int), .int .i64 (e : Int), .int .i64 (d.t : Int), .int .i64 (d.c : Int), .slice At LI ct]] w9 (fun e9 w8 => e9 = .returned (.bool false) ∧ Below w9.heap.size w9 w8) from fun w9 => by
                      have h := HAW.out w9
                      rw [hah] at h
                      exact h)
                    clear hah HAW
                    go_upto_region 37 with fail
                    refine wp_region_held_drew (S := (fun w' => w'.cell? ⟨b9, j * 5, none⟩ = some (.int .i64 (y.b : Int)) ∧ w'.cell? ⟨b9, j * 5 + 1, none⟩ = some (.int .i64 EY) ∧ w'.cell? ⟨b9, j * 5 + 2, none⟩ = some (.int .i64 (y.t : Int)) ∧ w'.cell? ⟨b9, j * 5 + 3, none⟩ = some (.int .i64 (y.c : Int)) ∧ w'.cell? ⟨b9, j * 5 + 4, none⟩ = some (.slice Ay LY cy) ∧ w'.cell? ⟨b9, i * 5, none⟩ = some (.int .i64 (d.b : Int)) ∧ w'.cell? ⟨b9, i * 5 + 1, none⟩ = some (.int .i64 (e : Int)) ∧ w'.cell? ⟨b9, i * 5 + 2, none⟩ = some (.int .i64 (d.t : Int)) ∧ w'.cell? ⟨b9, i * 5 + 3, none⟩ = some (.int .i64 (d.c : Int)) ∧ w'.cell? ⟨b9, i * 5 + 4, none⟩ = some (.slice At LI ct) ∧ w'.cell? ⟨bo, j, none⟩ = some (.int .i64 Z) ∧ w'.cell? ⟨bo, i, none⟩ = some (.int .i64 (v : Int)))) (by kernel_rfl) ?_ (fun hHeld => ?_)
                    · (try dsimp only); (first | assumption | exact ⟨u0, u1, u2, u3, u4, v0, v1, v2, v3, v4, o1, o2⟩ | exact ⟨cell_below b9x u0, cell_below b9x u1, cell_below b9x u2, cell_below b9x u3, cell_below b9x u4, cell_below b9x v0, cell_below b9x v1, cell_below b9x v2, cell_below b9x v3, cell_below b9x v4, cell_below b9x o1, cell_below b9x o2⟩)
                    refine wpAnyH_take (i := 0) (oi := ⟨some 221, _, _, _, _, _⟩) (v := ?_) rfl (by kernel_rfl) (by kernel_rfl) (by kernel_rfl) (fun _ _ _ h => h) (Or.inl ⟨by rfl, ?_⟩) (by assumption) ?_
                    rotate_left
                    · intro w hSw; (try dsimp only at hSw); go_simp <;> with_reducible rfl
                    try simp only [Act.put, List.setIfInBounds_toArray, List.set_cons_zero, List.set_cons_succ]
                    refine wpAnyH_take (i := 1) (oi := ⟨some 222, _, _, _, _, _⟩) (v := ?_) rfl (by kernel_rfl) (by kernel_rfl) (by kernel_rfl) (fun _ _ _ h => h) (Or.inl ⟨by rfl, ?_⟩) (by assumption) ?_
                    rotate_left
                    · intro w hSw; (try dsimp only at hSw); go_simp <;> with_reducible rfl
                    try simp only [Act.put, List.setIfInBounds_toArray, List.set_cons_zero, List.set_cons_succ]
                    refine wpAnyH_take (i := 2) (oi := ⟨some 223, _, _, _, _, _⟩) (v := ?_) rfl (by kernel_rfl) (by kernel_rfl) (by kernel_rfl) (fun _ _ _ h => h) (Or.inl ⟨by rfl, ?_⟩) (by assumption) ?_
                    rotate_left
                    · intro w hSw; (try dsimp only at hSw); go_simp <;> with_reducible rfl
                    try simp only [Act.put, List.setIfInBounds_toArray, List.set_cons_zero, List.set_cons_succ]
                    refine wpAnyH_take (i := 3) (oi := ⟨some 224, _, _, _, _, _⟩) (v := ?_) rfl (by kernel_rfl) (by kernel_rfl) (by kernel_rfl) (fun _ _ _ h => h) (Or.inl ⟨by rfl, ?_⟩) (by assumption) ?_
                    rotate_left
                    · intro w hSw; (try dsimp only at hSw); go_simp <;> with_reducible rfl
                    try simp only [Act.put, List.setIfInBounds_toArray, List.set_cons_zero, List.set_cons_succ]
                    refine wpAnyH_take (i := 4) (oi := ⟨some 225, _, _, _, _, _⟩) (v := ?_) rfl (by kernel_rfl) (by kernel_rfl) (by kernel_rfl) (fun _ _ _ h => h) (Or.inl ⟨by rfl, ?_⟩) (by assumption) ?_
                    rotate_left
                    · intro w hSw; (try dsimp only at hSw); go_simp <;> with_reducible rfl
                    try simp only [Act.put, List.setIfInBounds_toArray, List.set_cons_zero, List.set_cons_succ]
                    refine wpAnyH_take (i := 5) (oi := ⟨some 226, _, _, _, _, _⟩) (v := ?_) rfl (by kernel_rfl) (by kernel_rfl) (by kernel_rfl) (fun _ _ _ h => h) (Or.inl ⟨by rfl, ?_⟩) (by assumption) ?_
                    rotate_left
                    · intro w hSw; (try dsimp only at hSw); go_simp <;> with_reducible rfl
                    try simp only [Act.put, List.setIfInBounds_toArray, List.set_cons_zero, List.set_cons_succ]
                    refine wpAnyH_take (i := 6) (oi := ⟨some 227, _, _, _, _, _⟩) (v := ?_) rfl (by kernel_rfl) (by kernel_rfl) (by kernel_rfl) (fun _ _ _ h => h) (Or.inl ⟨by rfl, ?_⟩) (by assumption) ?_
                    rotate_left
                    · intro w hSw; (try dsimp only at hSw); go_simp <;> with_reducible rfl
                    try simp only [Act.put, List.setIfInBounds_toArray, List.set_cons_zero, List.set_cons_succ]
                    refine wpAnyH_take (i := 7) (oi := ⟨some 228, _, _, _, _, _⟩) (v := ?_) rfl (by kernel_rfl) (by kernel_rfl) (by kernel_rfl) (fun _ _ _ h => h) (Or.inl ⟨by rfl, ?_⟩) (by assumption) ?_
                    rotate_left
                    · intro w hSw; (try dsimp only at hSw); go_simp <;> with_reducible rfl
                    try simp only [Act.put, List.setIfInBounds_toArray, List.set_cons_zero, List.set_cons_succ]
                    refine wpAnyH_ready (rs := [8]) (by kernel_rfl) (by simp) ?_
                    refine AllReadyH.cons (o := ⟨some 229, _, _, _, _, _⟩) rfl (fun K hK => ?_) AllReadyH.nil
                    go_simp
                    refine (HAH.out _).mono ?_; rintro e9 w9 ⟨rfl, b9x⟩; have b9x := bgo (bnil wp).drew b9x
                    go_wp2_with fail
                    refine hK.out _ _ ?_ (fun hHeld => ?_)
                    · (try dsimp only); (first | assumption | exact ⟨u0, u1, u2, u3, u4, v0, v1, v2, v3, v4, o1, o2⟩ | exact ⟨cell_below b9x u0, cell_below b9x u1, cell_below b9x u2, cell_below b9x u3, cell_below b9x u4, cell_below b9x v0, cell_below b9x v1, cell_below b9x v2, cell_below b9x v3, cell_below b9x v4, cell_below b9x o1, cell_below b9x o2⟩)
                    clear hK K
                    try simp only [Act.put, List.setIfInBounds_toArray, List.set_cons_zero, List.set_cons_succ]
                    refine wpAnyH_take (i := 9) (oi := ⟨some 230, _, _, _, _, _⟩) (v := ?_) rfl (by kernel_rfl) (by kernel_rfl) (by kernel_rfl) (fun _ _ _ h => h) (Or.inl ⟨by rfl, ?_⟩) (by assumption) ?_
                    rotate_left
                    · intro w hSw; (try dsimp only at hSw); go_simp <;> with_reducible rfl
                    try simp only [Act.put, List.setIfInBounds_toArray, List.set_cons_zero, List.set_cons_succ]
                    refine wpAnyH_take (i := 10) (oi := ⟨some 231, _, _, _, _, _⟩) (v := undef) rfl (by kernel_rfl) (by kernel_rfl) (by kernel_rfl) (fun _ _ _ h => h) (Or.inr ⟨by rfl, rfl⟩) (by assumption) ?_
                    try simp only [Act.put, List.setIfInBounds_toArray, List.set_cons_zero, List.set_cons_succ]
                    refine wpAnyH_take (i := 11) (oi := ⟨some 232, _, _, _, _, _⟩) (v := undef) rfl (by kernel_rfl) (by kernel_rfl) (by kernel_rfl) (fun _ _ _ h => h) (Or.inr ⟨by rfl, rfl⟩) (by assumption) ?_
                    try simp only [Act.put, List.setIfInBounds_toArray, List.set_cons_zero, List.set_cons_succ]
                    refine wpAnyH_take (i := 12) (oi := ⟨some 233, _, _, _, _, _⟩) (v := undef) rfl (by kernel_rfl) (by kernel_rfl) (by kernel_rfl) (fun _ _ _ h => h) (Or.inr ⟨by rfl, rfl⟩) (by assumption) ?_
                    try simp only [Act.put, List.setIfInBounds_toArray, List.set_cons_zero, List.set_cons_succ]
                    refine wpAnyH_take (i := 13) (oi := ⟨some 234, _, _, _, _, _⟩) (v := undef) rfl (by kernel_rfl) (by kernel_rfl) (by kernel_rfl) (fun _ _ _ h => h) (Or.inr ⟨by rfl, rfl⟩) (by assumption) ?_
                    try simp only [Act.put, List.setIfInBounds_toArray, List.set_cons_zero, List.set_cons_succ]
                    refine wpAnyH_take (i := 14) (oi := ⟨some 235, _, _, _, _, _⟩) (v := undef) rfl (by kernel_rfl) (by kernel_rfl) (by kernel_rfl) (fun _ _ _ h => h) (Or.inr ⟨by rfl, rfl⟩) (by assumption) ?_
                    try simp only [Act.put, List.setIfInBounds_toArray, List.set_cons_zero, List.set_cons_succ]
                    refine wpAnyH_take (i := 15) (oi := ⟨some 236, _, _, _, _, _⟩) (v := undef) rfl (by kernel_rfl) (by kernel_rfl) (by kernel_rfl) (fun _ _ _ h => h) (Or.inr ⟨by rfl, rfl⟩) (by assumption) ?_
                    try simp only [Act.put, List.setIfInBounds_toArray, List.set_cons_zero, List.set_cons_succ]
                    refine wpAnyH_take (i := 16) (oi := ⟨some 237, _, _, _, _, _⟩) (v := undef) rfl (by kernel_rfl) (by kernel_rfl) (by kernel_rfl) (fun _ _ _ h => h) (Or.inr ⟨by rfl, rfl⟩) (by assumption) ?_
                    try simp only [Act.put, List.setIfInBounds_toArray, List.set_cons_zero, List.set_cons_succ]
                    refine wpAnyH_take (i := 17) (oi := ⟨some 238, _, _, _, _, _⟩) (v := undef) rfl (by kernel_rfl) (by kernel_rfl) (by kernel_rfl) (fun _ _ _ h => h) (Or.inr ⟨by rfl, rfl⟩) (by assumption) ?_
                    try simp only [Act.put, List.setIfInBounds_toArray, List.set_cons_zero, List.set_cons_succ]
                    refine wpAnyH_take (i := 18) (oi := ⟨some 239, _, _, _, _, _⟩) (v := undef) rfl (by kernel_rfl) (by kernel_rfl) (by kernel_rfl) (fun _ _ _ h => h) (Or.inr ⟨by rfl, rfl⟩) (by assumption) ?_
                    try simp only [Act.put, List.setIfInBounds_toArray, List.set_cons_zero, List.set_cons_succ]
                    refine wpAnyH_take (i := 19) (oi := ⟨some 240, _, _, _, _, _⟩) (v := ?_) rfl (by kernel_rfl) (by kernel_rfl) (by kernel_rfl) (fun _ _ _ h => h) (Or.inl ⟨by rfl, ?_⟩) (by assumption) ?_
                    rotate_left
                    · intro w hSw; (try dsimp only at hSw); go_simp <;> with_reducible rfl
                    try simp only [Act.put, List.setIfInBounds_toArray, List.set_cons_zero, List.set_cons_succ]
                    refine wpAnyH_take (i := 20) (oi := ⟨some 220, _, _, _, _, _⟩) (v := ?_) rfl (by kernel_rfl) (by kernel_rfl) (by kernel_rfl) (fun _ _ _ h => h) (Or.inl ⟨by rfl, ?_⟩) (by assumption) ?_
                    rotate_left
                    · intro w hSw; (try dsimp only at hSw); go_simp <;> with_reducible rfl
                    try simp only [Act.put, List.setIfInBounds_toArray, List.set_cons_zero, List.set_cons_succ]
                    refine wpAnyH_done (by kernel_rfl) ?_ _
                    rotate_left
                    all_goals
                      have HBX := hid (bgo HB1.out b9x)
                      go_wp2_with fail
                      go_roundw
                      case rel => exact ⟨b, j + 1, by omega, rfl, by go_num, HBN, HBX⟩
                      case measure => simp [intOf]; omega
                  | true =>
                    have HAH := hid (show ∀ w9, Calls Tryd.prog 21 #[.agg #[.int .i64 (y.b : Int), .int .i64 EY, .int .i64 (y.t : Int), .int .i64 (y.c : Int), .slice Ay LY cy], .agg #[.int .i64 (d.b : Int), .int .i64 (e : Int), .int .i64 (d.t : Int), .int .i64 (d.c : Int), .slice At LI ct]] w9 (fun e9 w8 => e9 = .returned (.bool true) ∧ Below w9.heap.size w9 w8) from fun w9 => by
                      have h := HAW.out w9
                      rw [hah] at h
                      exact h)
                    have qg : ¬ (v : Int) < Z := by have h := HLJ.out hah; unfold lowb at h; rw [if_neg HYT.out] at h; rw [← HZ.out]; unfold tnum; split <;> omega
                    clear hah HAW
                    go_upto_region 37 with fail
                    refine wp_region_held_drew (S := (fun w' => w'.cell? ⟨b9, j * 5, none⟩ = some (.int .i64 (y.b : Int)) ∧ w'.cell? ⟨b9, j * 5 + 1, none⟩ = some (.int .i64 EY) ∧ w'.cell? ⟨b9, j * 5 + 2, none⟩ = some (.int .i64 (y.t : Int)) ∧ w'.cell? ⟨b9, j * 5 + 3, none⟩ = some (.int .i64 (y.c : Int)) ∧ w'.cell? ⟨b9, j * 5 + 4, none⟩ = some (.slice Ay LY cy) ∧ w'.cell? ⟨b9, i * 5, none⟩ = some (.int .i64 (d.b : Int)) ∧ w'.cell? ⟨b9, i * 5 + 1, none⟩ = some (.int .i64 (e : Int)) ∧ w'.cell? ⟨b9, i * 5 + 2, none⟩ = some (.int .i64 (d.t : Int)) ∧ w'.cell? ⟨b9, i * 5 + 3, none⟩ = some (.int .i64 (d.c : Int)) ∧ w'.cell? ⟨b9, i * 5 + 4, none⟩ = some (.slice At LI ct) ∧ w'.cell? ⟨bo, j, none⟩ = some (.int .i64 Z) ∧ w'.cell? ⟨bo, i, none⟩ = some (.int .i64 (v : Int)))) (by kernel_rfl) ?_ (fun hHeld => ?_)
                    · (try dsimp only); (first | assumption | exact ⟨u0, u1, u2, u3, u4, v0, v1, v2, v3, v4, o1, o2⟩ | exact ⟨cell_below b9x u0, cell_below b9x u1, cell_below b9x u2, cell_below b9x u3, cell_below b9x u4, cell_below b9x v0, cell_below b9x v1, cell_below b9x v2, cell_below b9x v3, cell_below b9x v4, cell_below b9x o1, cell_below b9x o2⟩)
                    refine wpAnyH_take (i := 0) (oi := ⟨some 221, _, _, _, _, _⟩) (v := ?_) rfl (by kernel_rfl) (by kernel_rfl) (by kernel_rfl) (fun _ _ _ h => h) (Or.inl ⟨by rfl, ?_⟩) (by assumption) ?_
                    rotate_left
                    · intro w hSw; (try dsimp only at hSw); go_simp <;> with_reducible rfl
                    try simp only [Act.put, List.setIfInBounds_toArray, List.set_cons_zero, List.set_cons_succ]
                    refine wpAnyH_take (i := 1) (oi := ⟨some 222, _, _, _, _, _⟩) (v := ?_) rfl (by kernel_rfl) (by kernel_rfl) (by kernel_rfl) (fun _ _ _ h => h) (Or.inl ⟨by rfl, ?_⟩) (by assumption) ?_
                    rotate_left
                    · intro w hSw; (try dsimp only at hSw); go_simp <;> with_reducible rfl
                    try simp only [Act.put, List.setIfInBounds_toArray, List.set_cons_zero, List.set_cons_succ]
                    refine wpAnyH_take (i := 2) (oi := ⟨some 223, _, _, _, _, _⟩) (v := ?_) rfl (by kernel_rfl) (by kernel_rfl) (by kernel_rfl) (fun _ _ _ h => h) (Or.inl ⟨by rfl, ?_⟩) (by assumption) ?_
                    rotate_left
                    · intro w hSw; (try dsimp only at hSw); go_simp <;> with_reducible rfl
                    try simp only [Act.put, List.setIfInBounds_toArray, List.set_cons_zero, List.set_cons_succ]
                    refine wpAnyH_take (i := 3) (oi := ⟨some 224, _, _, _, _, _⟩) (v := ?_) rfl (by kernel_rfl) (by kernel_rfl) (by kernel_rfl) (fun _ _ _ h => h) (Or.inl ⟨by rfl, ?_⟩) (by assumption) ?_
                    rotate_left
                    · intro w hSw; (try dsimp only at hSw); go_simp <;> with_reducible rfl
                    try simp only [Act.put, List.setIfInBounds_toArray, List.set_cons_zero, List.set_cons_succ]
                    refine wpAnyH_take (i := 4) (oi := ⟨some 225, _, _, _, _, _⟩) (v := ?_) rfl (by kernel_rfl) (by kernel_rfl) (by kernel_rfl) (fun _ _ _ h => h) (Or.inl ⟨by rfl, ?_⟩) (by assumption) ?_
                    rotate_left
                    · intro w hSw; (try dsimp only at hSw); go_simp <;> with_reducible rfl
                    try simp only [Act.put, List.setIfInBounds_toArray, List.set_cons_zero, List.set_cons_succ]
                    refine wpAnyH_take (i := 5) (oi := ⟨some 226, _, _, _, _, _⟩) (v := ?_) rfl (by kernel_rfl) (by kernel_rfl) (by kernel_rfl) (fun _ _ _ h => h) (Or.inl ⟨by rfl, ?_⟩) (by assumption) ?_
                    rotate_left
                    · intro w hSw; (try dsimp only at hSw); go_simp <;> with_reducible rfl
                    try simp only [Act.put, List.setIfInBounds_toArray, List.set_cons_zero, List.set_cons_succ]
                    refine wpAnyH_take (i := 6) (oi := ⟨some 227, _, _, _, _, _⟩) (v := ?_) rfl (by kernel_rfl) (by kernel_rfl) (by kernel_rfl) (fun _ _ _ h => h) (Or.inl ⟨by rfl, ?_⟩) (by assumption) ?_
                    rotate_left
                    · intro w hSw; (try dsimp only at hSw); go_simp <;> with_reducible rfl
                    try simp only [Act.put, List.setIfInBounds_toArray, List.set_cons_zero, List.set_cons_succ]
                    refine wpAnyH_take (i := 7) (oi := ⟨some 228, _, _, _, _, _⟩) (v := ?_) rfl (by kernel_rfl) (by kernel_rfl) (by kernel_rfl) (fun _ _ _ h => h) (Or.inl ⟨by rfl, ?_⟩) (by assumption) ?_
                    rotate_left
                    · intro w hSw; (try dsimp only at hSw); go_simp <;> with_reducible rfl
                    try simp only [Act.put, List.setIfInBounds_toArray, List.set_cons_zero, List.set_cons_succ]
                    refine wpAnyH_ready (rs := [8]) (by kernel_rfl) (by simp) ?_
                    refine AllReadyH.cons (o := ⟨some 229, _, _, _, _, _⟩) rfl (fun K hK => ?_) AllReadyH.nil
                    go_simp
                    refine (HAH.out _).mono ?_; rintro e9 w9 ⟨rfl, b9x⟩; have b9x := bgo (bnil wp).drew b9x
                    go_wp2_with fail
                    refine hK.out _ _ ?_ (fun hHeld => ?_)
                    · (try dsimp only); (first | assumption | exact ⟨u0, u1, u2, u3, u4, v0, v1, v2, v3, v4, o1, o2⟩ | exact ⟨cell_below b9x u0, cell_below b9x u1, cell_below b9x u2, cell_below b9x u3, cell_below b9x u4, cell_below b9x v0, cell_below b9x v1, cell_below b9x v2, cell_below b9x v3, cell_below b9x v4, cell_below b9x o1, cell_below b9x o2⟩)
                    clear hK K
                    try simp only [Act.put, List.setIfInBounds_toArray, List.set_cons_zero, List.set_cons_succ]
                    refine wpAnyH_take (i := 9) (oi := ⟨some 230, _, _, _, _, _⟩) (v := ?_) rfl (by kernel_rfl) (by kernel_rfl) (by kernel_rfl) (fun _ _ _ h => h) (Or.inl ⟨by rfl, ?_⟩) (by assumption) ?_
                    rotate_left
                    · intro w hSw; (try dsimp only at hSw); go_simp <;> with_reducible rfl
                    try simp only [Act.put, List.setIfInBounds_toArray, List.set_cons_zero, List.set_cons_succ]
                    refine wpAnyH_take (i := 10) (oi := ⟨some 231, _, _, _, _, _⟩) (v := ?_) rfl (by kernel_rfl) (by kernel_rfl) (by kernel_rfl) (fun _ _ _ h => h) (Or.inl ⟨by rfl, ?_⟩) (by assumption) ?_
                    rotate_left
                    · intro w hSw; (try dsimp only at hSw); go_simp <;> with_reducible rfl
                    try simp only [Act.put, List.setIfInBounds_toArray, List.set_cons_zero, List.set_cons_succ]
                    refine wpAnyH_take (i := 11) (oi := ⟨some 232, _, _, _, _, _⟩) (v := ?_) rfl (by kernel_rfl) (by kernel_rfl) (by kernel_rfl) (fun _ _ _ h => h) (Or.inl ⟨by rfl, ?_⟩) (by assumption) ?_
                    rotate_left
                    · intro w hSw; (try dsimp only at hSw); go_simp <;> with_reducible rfl
                    try simp only [Act.put, List.setIfInBounds_toArray, List.set_cons_zero, List.set_cons_succ]
                    refine wpAnyH_take (i := 12) (oi := ⟨some 233, _, _, _, _, _⟩) (v := ?_) rfl (by kernel_rfl) (by kernel_rfl) (by kernel_rfl) (fun _ _ _ h => h) (Or.inl ⟨by rfl, ?_⟩) (by assumption) ?_
                    rotate_left
                    · intro w hSw; (try dsimp only at hSw); go_simp <;> with_reducible rfl
                    try simp only [Act.put, List.setIfInBounds_toArray, List.set_cons_zero, List.set_cons_succ]
                    refine wpAnyH_take (i := 13) (oi := ⟨some 234, _, _, _, _, _⟩) (v := ?_) rfl (by kernel_rfl) (by kernel_rfl) (by kernel_rfl) (fun _ _ _ h => h) (Or.inl ⟨by rfl, ?_⟩) (by assumption) ?_
                    rotate_left
                    · intro w hSw; (try dsimp only at hSw); go_simp <;> with_reducible rfl
                    try simp only [Act.put, List.setIfInBounds_toArray, List.set_cons_zero, List.set_cons_succ]
                    refine wpAnyH_take (i := 14) (oi := ⟨some 235, _, _, _, _, _⟩) (v := ?_) rfl (by kernel_rfl) (by kernel_rfl) (by kernel_rfl) (fun _ _ _ h => h) (Or.inl ⟨by rfl, ?_⟩) (by assumption) ?_
                    rotate_left
                    · intro w hSw; (try dsimp only at hSw); go_simp <;> with_reducible rfl
                    try simp only [Act.put, List.setIfInBounds_toArray, List.set_cons_zero, List.set_cons_succ]
                    refine wpAnyH_take (i := 15) (oi := ⟨some 236, _, _, _, _, _⟩) (v := ?_) rfl (by kernel_rfl) (by kernel_rfl) (by kernel_rfl) (fun _ _ _ h => h) (Or.inl ⟨by rfl, ?_⟩) (by assumption) ?_
                    rotate_left
                    · intro w hSw; (try dsimp only at hSw); go_simp <;> with_reducible rfl
                    try simp only [Act.put, List.setIfInBounds_toArray, List.set_cons_zero, List.set_cons_succ]
                    refine wpAnyH_take (i := 16) (oi := ⟨some 237, _, _, _, _, _⟩) (v := ?_) rfl (by kernel_rfl) (by kernel_rfl) (by kernel_rfl) (fun _ _ _ h => h) (Or.inl ⟨by rfl, ?_⟩) (by assumption) ?_
                    rotate_left
                    · intro w hSw; (try dsimp only at hSw); go_simp <;> with_reducible rfl
                    try simp only [Act.put, List.setIfInBounds_toArray, List.set_cons_zero, List.set_cons_succ]
                    refine wpAnyH_take (i := 17) (oi := ⟨some 238, _, _, _, _, _⟩) (v := ?_) rfl (by kernel_rfl) (by kernel_rfl) (by kernel_rfl) (fun _ _ _ h => h) (Or.inl ⟨by rfl, ?_⟩) (by assumption) ?_
                    rotate_left
                    · intro w hSw; (try dsimp only at hSw); go_simp <;> with_reducible rfl
                    try simp only [Act.put, List.setIfInBounds_toArray, List.set_cons_zero, List.set_cons_succ]
                    refine wpAnyH_take (i := 18) (oi := ⟨some 239, _, _, _, _, _⟩) (v := ?_) rfl (by kernel_rfl) (by kernel_rfl) (by kernel_rfl) (fun _ _ _ h => h) (Or.inl ⟨by rfl, ?_⟩) (by assumption) ?_
                    rotate_left
                    · intro w hSw; (try dsimp only at hSw); go_simp <;> with_reducible rfl
                    try simp only [Act.put, List.setIfInBounds_toArray, List.set_cons_zero, List.set_cons_succ]
                    refine wpAnyH_take (i := 19) (oi := ⟨some 240, _, _, _, _, _⟩) (v := ?_) rfl (by kernel_rfl) (by kernel_rfl) (by kernel_rfl) (fun _ _ _ h => h) (Or.inl ⟨by rfl, ?_⟩) (by assumption) ?_
                    rotate_left
                    · intro w hSw; (try dsimp only at hSw); go_simp <;> with_reducible rfl
                    try simp only [Act.put, List.setIfInBounds_toArray, List.set_cons_zero, List.set_cons_succ]
                    refine wpAnyH_take (i := 20) (oi := ⟨some 220, _, _, _, _, _⟩) (v := ?_) rfl (by kernel_rfl) (by kernel_rfl) (by kernel_rfl) (fun _ _ _ h => h) (Or.inl ⟨by rfl, ?_⟩) (by assumption) ?_
                    rotate_left
                    · intro w hSw; (try dsimp only at hSw); go_simp <;> with_reducible rfl
                    try simp only [Act.put, List.setIfInBounds_toArray, List.set_cons_zero, List.set_cons_succ]
                    refine wpAnyH_done (by kernel_rfl) ?_ _
                    rotate_left
                    all_goals
                      have HBX := hid (bgo HB1.out b9x)
                      go_wp2_with fail
                      go_roundw
                      case rel => exact ⟨b, j + 1, by omega, rfl, by go_num, HBN, HBX⟩
                      case measure => simp [intOf]; omega
              · obtain rfl : LD = j := by omega
                have j2 : ¬ (LD : Int) < (LD : Int) := by omega
                have hbt : b = true := by
                  rw [HB.out]
                  by_cases h : v = 0
                  · simp [h]
                  · obtain ⟨dp, g1, _⟩ := HIX.out (by omega)
                    have := (List.getElem?_eq_some_iff.1 g1).1
                    rw [HDL.out] at this
                    simp [this]
                subst hbt
                clear HB
                go_wp2_with fail
                go_roundw
                case rel => exact ⟨i + 1, by omega, by go_num, BR⟩
                case measure => simp [intOf]; omega
        · obtain rfl : LD = i := by omega
          have j1 : ¬ (LD : Int) < (LD : Int) := by omega
          go_wp2_with fail
          go_ret
          exact ⟨rfl, bgo B4.out BR.out⟩
end Go.Proofs.YtabmkjokeeakdaaDoor
