/-
  RwlShares: its walk. Written by gen_rwls.py.
-/
import Derived.Test.YtnoinojhocicjaaDoorRwlMach
import Derived.Test.YtnoinojhocicjaaDoorRwlSh0
import Derived.Test.YtnoinojhocicjaaDoorSemaEnds
namespace Go.Proofs.YtnoinojhocicjaaDoor
open Go.RowKit
set_option linter.unusedVariables false

theorem setCell_alloc_ (w : World) (o : Obj) (p : Addr) (v : Value) (h : p.block < w.heap.size) : (w.setCell p v).alloc o = (w.alloc o).setCell p v := by
  unfold World.alloc World.setCell
  simp only
  congr 1
  apply Array.ext_getElem?
  intro i
  simp only [Array.getElem?_modify, Array.getElem?_push, Array.size_modify]
  by_cases hi : i = w.heap.size
  · subst hi
    simp [show ¬ p.block = w.heap.size by omega]
  · simp [hi]
theorem grown_alloc (w : World) (o : Obj) (row : Option Nat) : w.grownBy (w.alloc o) row := ⟨rfl, rfl, rfl, by rw [World.size_alloc]; omega, fun k hk _ => Below.heap_alloc w o k hk⟩
def rsF (v t : Nat) : Nat → List VCall := fun j => if j < t then rsTh v j else wrows (kdOf []) j 6
theorem rsF_zero (v : Nat) : rsF v 0 = fun j => wrows (kdOf []) j 6 := by
  funext j; unfold rsF; rw [if_neg (by omega)]
theorem rsF_next (v t : Nat) : upd (rsF v t) t (rsTh v t) = rsF v (t + 1) := by
  funext j
  unfold upd rsF
  by_cases h : j = t
  · rw [if_pos h, if_pos (by omega), h]
  · rw [if_neg h]
    by_cases h2 : j < t
    · rw [if_pos h2, if_pos (by omega)]
    · rw [if_neg h2, if_neg (by omega)]
theorem upd_twice {α : Type} (f : Nat → α) (n : Nat) (x y : α) : upd (upd f n x) n y = upd f n y := upd_upd f n x y
theorem rs_crow {B : Nat} (w : World) (hB : B ≤ w.heap.size) (cs : List VCall) (c0 c1 c2 : Nat) (h : cs = [⟨c0, []⟩, ⟨c1, []⟩, ⟨c2, []⟩]) : CRow B (w.alloc (.cells #[.int .i64 (c0 : Int), .slice none 0 0, .int .i64 (c1 : Int), .slice none 0 0, .int .i64 (c2 : Int), .slice none 0 0] 46)) (.slice (some ⟨w.heap.size, 0, none⟩) 3 3) cs [⟨none, 0, 0⟩, ⟨none, 0, 0⟩, ⟨none, 0, 0⟩] := by
  subst h
  refine ⟨rfl, ⟨rfl, .inr ⟨w.heap.size, 3, _, rfl, hB, Blk.new w _ _, Nat.le_refl _, by simp [maxLen], rfl, rfl⟩⟩, fun k c v hk hv => ?_⟩
  match k, hk, hv with
  | 0, hk, hv => injection hk with hk; injection hv with hv; subst hk hv; exact own0 _ B _ 1
  | 1, hk, hv => injection hk with hk; injection hv with hv; subst hk hv; exact own0 _ B _ 1
  | 2, hk, hv => injection hk with hk; injection hv with hv; subst hk hv; exact own0 _ B _ 1
  | k + 3, hk, hv => simp at hk
theorem rsTh_ok (v j : Nat) : (rsTh v j).length ≤ 20 ∧ ∀ c ∈ rsTh v j, c.code < 5 ∧ c.args.length ≤ 8 := by
  unfold rsTh
  split
  · exact ⟨by decide, by decide⟩
  · exact ⟨by decide, by decide⟩
theorem rs_mem (v : Nat) (hv : v < 4) (d i : Nat) : ∀ x ∈ partsS (rsT v) rsC d ++ List.replicate i (rsT v d), x < 4 :=
  parts_mem (N := 4) (fun d => by unfold rsT; split <;> omega) d i (rsT v d) (by unfold rsT; split <;> omega)
theorem rs_mem2 (v : Nat) (hv : v < 4) (i : Nat) : ∀ x ∈ partsS (rsT v) rsC 9 ++ rsP v i, x < 4 := by
  intro x hx
  rcases List.mem_append.1 hx with hx | hx
  · exact rs_mem v hv 9 0 x (List.mem_append.2 (.inl hx))
  · induction i with
    | zero => cases hx
    | succ i ih =>
      rcases List.mem_append.1 hx with hx | hx
      · exact ih (List.mem_append.2 (.inr hx)) hx
      · simp at hx; omega
set_option maxHeartbeats 8000000 in
set_option maxRecDepth 100000 in
theorem law_rwlShares (xv xw : Int) (w : World) (ha : -9223372036854775808 ≤ xv) (ha1 : xv ≤ 9223372036854775807) (hb : -9223372036854775808 ≤ xw) (hb1 : xw ≤ 9223372036854775807) (hT : STab w) :
    Calls Tryd.prog 11 #[.int .i64 xv, .int .i64 xw] w fun e w' => e = .returned (.bool true) ∧ Below w.heap.size w w' := by
  have HT := hid hT
  clear hT
  obtain ⟨v, hv⟩ : ∃ v, pk xv 4 = v := ⟨_, rfl⟩
  have HV := hid hv
  have hv4 : v < 4 := by have := pk_lt xv 4 (by decide); omega
  obtain ⟨wt, hwt⟩ : ∃ wt, pk xw 400 = wt := ⟨_, rfl⟩
  have HWT := hid hwt
  have hwt2 : wt < 400 := by have := pk_lt xw 400 (by decide); omega
  clear hv hwt
  go_enter Tryd.func11, Tryd.ntmps11
  go_wp2_with fail
  refine (rwl_machine none 0 0 [] 1 w (by decide) (Sl.nil _) (by decide) (by decide) HT.out).mono ?_
  rintro e w1 hp1
  obtain ⟨AW, cW, Cb, T, cv, tv, av, rfl, hW, hM, b1⟩ := hp1
  have HM := hid hM; have B1 := hid b1; have HW := hid hW
  clear hM b1 hW
  obtain ⟨X, hX⟩ : ∃ X, w1.heap.size = X := ⟨_, rfl⟩
  go_upto_region 2 with fail
  have HX0 := hid (blkN w1 27 #[.slice AW 1 cW, .slice (some ⟨Cb, 0, none⟩) 5 5, .slice (some ⟨T, 0, none⟩) 4 4] X hX)
  have BA := hid (bgo B1.out (bnew (bnil w1) (.cells #[.slice AW 1 cW, .slice (some ⟨Cb, 0, none⟩) 5 5, .slice (some ⟨T, 0, none⟩) 4 4] 27)))
  have HMA := hid (HM.out.below (bnew (bnil w1) (.cells #[.slice AW 1 cW, .slice (some ⟨Cb, 0, none⟩) 5 5, .slice (some ⟨T, 0, none⟩) 4 4] 27)))
  have HWA := hid (own_below HW.out (bnew (bnil w1) (.cells #[.slice AW 1 cW, .slice (some ⟨Cb, 0, none⟩) 5 5, .slice (some ⟨T, 0, none⟩) 4 4] 27)))
  generalize World.alloc w1 _ = wA at *
  clear hX HM HW
  go_wp2_with fail
  refine (picked xv 4 wA (by decide) ha ha1 (by decide)).mono ?_
  rintro e w' ⟨rfl, rfl⟩
  rw [HV.out]
  go_wp2_with fail
  go_loopw [8] (fun o wr => ∃ (t : Nat) (tv : Nat → Value) (av : Nat → List SV), t ≤ 4 ∧ o = .int .i64 t ∧ Hid (MN w.heap.size wr 5 4 Cb T cv (fun i => [readInCode, readOutCode, writeInCode, writeOutCode, lops 1 1].getD i []) tv (rsF v t) av) ∧ Hid (Blk wr X 27 #[.slice AW 1 cW, .slice (some ⟨Cb, 0, none⟩) 5 5, .slice (some ⟨T, 0, none⟩) 4 4]) ∧ Hid (wr.ownsRow w.heap.size 3 1 (.slice AW 1 cW) 1 (([0] : List Int).flatMap gI)) ∧ Hid (Below w.heap.size w wr)) (fun o _ => 4 - (intOf o).toNat)
  case atStart => exact ⟨0, tv, av, Nat.zero_le _, rfl, (by rw [rsF_zero]; exact HMA), HX0, HWA, BA⟩
  case round =>
    clear HMA HX0 HWA BA
    clear tv av
    obtain ⟨t, tv, av, ht, rfl, HM, HX, HW, BR⟩ := hrel
    by_cases hlt : t < 4
    · have j1 : (t : Int) < 4 := by omega
      have y2 : wr.cell? ⟨X, 2, none⟩ = some (.slice (some ⟨T, 0, none⟩) 4 4) := HX.out.cell 2
      have y3 := HM.out.tb.cell t
      rw [arrN_at tv hlt] at y3
      have y4 := HM.out.tb.frozen t
      have ltT := HM.out.tb.lt
      have ltX := HX.out.lt
      have hXT : X ≠ T := HX.out.ne_ HM.out.tb (by decide)
      -- one row, or two
      have step1 : ∀ (wz : World) (tv : Nat → Value) (th : Nat → List VCall) (av : Nat → List SV) (cs : List VCall) (c2 : Nat) (hcs : cs = [⟨0, []⟩, ⟨1, []⟩, ⟨c2, []⟩]), MN w.heap.size wz 5 4 Cb T cv (fun i => [readInCode, readOutCode, writeInCode, writeOutCode, lops 1 1].getD i []) tv th av → Blk wz X 27 #[.slice AW 1 cW, .slice (some ⟨Cb, 0, none⟩) 5 5, .slice (some ⟨T, 0, none⟩) 4 4] → wz.ownsRow w.heap.size 3 1 (.slice AW 1 cW) 1 (([0] : List Int).flatMap gI) → Below w.heap.size w wz →
          ∃ (tv' : Nat → Value) (av' : Nat → List SV), MN w.heap.size ((wz.setCell ⟨T, t, none⟩ (.slice (some ⟨wz.heap.size, 0, none⟩) 3 3)).alloc (.cells #[.int .i64 0, .slice none 0 0, .int .i64 1, .slice none 0 0, .int .i64 (c2 : Int), .slice none 0 0] 46)) 5 4 Cb T cv (fun i => [readInCode, readOutCode, writeInCode, writeOutCode, lops 1 1].getD i []) tv' (upd th t cs) av' ∧ Blk ((wz.setCell ⟨T, t, none⟩ (.slice (some ⟨wz.heap.size, 0, none⟩) 3 3)).alloc (.cells #[.int .i64 0, .slice none 0 0, .int .i64 1, .slice none 0 0, .int .i64 (c2 : Int), .slice none 0 0] 46)) X 27 #[.slice AW 1 cW, .slice (some ⟨Cb, 0, none⟩) 5 5, .slice (some ⟨T, 0, none⟩) 4 4] ∧
            ((wz.setCell ⟨T, t, none⟩ (.slice (some ⟨wz.heap.size, 0, none⟩) 3 3)).alloc (.cells #[.int .i64 0, .slice none 0 0, .int .i64 1, .slice none 0 0, .int .i64 (c2 : Int), .slice none 0 0] 46)).ownsRow w.heap.size 3 1 (.slice AW 1 cW) 1 (([0] : List Int).flatMap gI) ∧ Below w.heap.size w ((wz.setCell ⟨T, t, none⟩ (.slice (some ⟨wz.heap.size, 0, none⟩) 3 3)).alloc (.cells #[.int .i64 0, .slice none 0 0, .int .i64 1, .slice none 0 0, .int .i64 (c2 : Int), .slice none 0 0] 46)) := by
        intro wz tv th av cs c2 hcs hM hX hW hB
        rw [setCell_alloc_ wz _ ⟨T, t, none⟩ _ hM.tb.lt]
        have hb := bnew (bnil wz) (.cells #[.int .i64 0, .slice none 0 0, .int .i64 1, .slice none 0 0, .int .i64 (c2 : Int), .slice none 0 0] 46)
        have hM1 := hM.below hb
        refine ⟨_, _, hM.put hlt (grown_alloc wz _ _) (.inr (.inr ⟨_, rfl, Nat.le_refl _⟩)) (rs_crow wz hB.size cs 0 1 c2 hcs), (hX.below' hb).far (p := ⟨T, t, none⟩) ((hX.below' hb).ne_ hM1.tb (by decide)) _, hM1.other hlt (bnil _) (World.grownBy.refl _ _) (own_below hW hb) (by decide) (by decide) _, (bgo hB hb).setCell (p := ⟨T, t, none⟩) hM.geT _⟩
      have HS1 := hid step1
      clear step1
      have y4a := (HM.out.below (bnew (bnil wr) (.cells #[.int .i64 0, .slice none 0 0, .int .i64 1, .slice none 0 0, .int .i64 0, .slice none 0 0] 46))).tb.frozen t
      have y3a : (wr.alloc (.cells #[.int .i64 0, .slice none 0 0, .int .i64 1, .slice none 0 0, .int .i64 0, .slice none 0 0] 46)).cell? ⟨T, t, none⟩ = some (tv t) := by rw [(HM.out.below (bnew (bnil wr) (.cells #[.int .i64 0, .slice none 0 0, .int .i64 1, .slice none 0 0, .int .i64 0, .slice none 0 0] 46))).tb.cell t, arrN_at tv hlt]
      obtain ⟨tv1, av1, m1, x1, o1, bb1⟩ := HS1.out wr tv (rsF v t) av [⟨0, []⟩, ⟨1, []⟩, ⟨0, []⟩] 0 rfl HM.out HX.out HW.out BR.out
      have M1 := hid m1; have X1 := hid x1; have O1 := hid o1; have BB1 := hid bb1
      clear m1 x1 o1 bb1
      obtain ⟨wq, hwq⟩ : ∃ wq, (wr.setCell ⟨T, t, none⟩ (.slice (some ⟨wr.heap.size, 0, none⟩) 3 3)).alloc (.cells #[.int .i64 0, .slice none 0 0, .int .i64 1, .slice none 0 0, .int .i64 0, .slice none 0 0] 46) = wq := ⟨_, rfl⟩
      rw [show ((0 : Nat) : Int) = 0 from rfl, hwq] at M1 X1 O1 BB1
      have HWQ := hid hwq
      clear hwq
      go_upto_region 9 with fail
      rw [HWQ.out]
      clear y2 y3 y4 y3a y4a ltT ltX HWQ HM HX HW BR
      clear tv av
      by_cases htv : t = v
      · subst htv
        have e1 : ((t : Int) == (t : Int)) = true := beqT rfl
        have y2 : wq.cell? ⟨X, 2, none⟩ = some (.slice (some ⟨T, 0, none⟩) 4 4) := X1.out.cell 2
        have y3 : wq.cell? ⟨T, t, none⟩ = some (tv1 t) := by rw [M1.out.tb.cell t, arrN_at tv1 hlt]
        have y4 := M1.out.tb.frozen t
        have ltT := M1.out.tb.lt
        have ltX := X1.out.lt
        have y4a := (M1.out.below (bnew (bnil wq) (.cells #[.int .i64 0, .slice none 0 0, .int .i64 1, .slice none 0 0, .int .i64 2, .slice none 0 0] 46))).tb.frozen t
        have y3a : (wq.alloc (.cells #[.int .i64 0, .slice none 0 0, .int .i64 1, .slice none 0 0, .int .i64 2, .slice none 0 0] 46)).cell? ⟨T, t, none⟩ = some (tv1 t) := by rw [(M1.out.below (bnew (bnil wq) (.cells #[.int .i64 0, .slice none 0 0, .int .i64 1, .slice none 0 0, .int .i64 2, .slice none 0 0] 46))).tb.cell t, arrN_at tv1 hlt]
        obtain ⟨tv2, av2, m2, x2, o2, bb2⟩ := HS1.out wq tv1 _ av1 (rsTh t t) 2 (by unfold rsTh; rw [if_pos rfl]) M1.out X1.out O1.out BB1.out
        rw [upd_twice, rsF_next] at m2
        have M2 := hid m2; have X2 := hid x2; have O2 := hid o2; have BB2 := hid bb2
        clear m2 x2 o2 bb2 M1 X1 O1 BB1
        go_wp2_with fail
        go_roundw
        case rel => exact ⟨t + 1, tv2, av2, by omega, by go_num, M2, X2, O2, BB2⟩
        case measure => simp [intOf]; omega
      · have e1 : ¬ ((t : Int) = (v : Int)) := by omega
        have M2 := hid (show MN w.heap.size wq 5 4 Cb T cv (fun i => [readInCode, readOutCode, writeInCode, writeOutCode, lops 1 1].getD i []) tv1 (rsF v (t + 1)) av1 by have h := M1.out; rw [show ([⟨0, []⟩, ⟨1, []⟩, ⟨0, []⟩] : List VCall) = rsTh v t by unfold rsTh; rw [if_neg htv], rsF_next] at h; exact h)
        clear M1
        go_wp2_with fail
        go_roundw
        case rel => exact ⟨t + 1, tv1, av1, by omega, by go_num, M2, X1, O1, BB1⟩
        case measure => simp [intOf]; omega
    · obtain rfl : t = 4 := by omega
      have j1 : ¬ (((4 : Nat) : Int) < 4) := by omega
      have HMA := hid (rwl_at (m := rsM v) (kd := kdOf []) HM.out (by decide) rfl (by show (List.range 4).map (rsTh v) = (List.range 4).map (rsF v 4); refine List.map_congr_left fun j hj => ?_; have hj := List.mem_range.1 hj; unfold rsF; rw [if_pos hj]) (fun j hj => by unfold rsF; rw [if_pos hj]; exact rsTh_ok v j))
      have HWS := hid (show Sl wr 1 AW 1 (ints ([0] : List Int)) from Sl.own HW.out)
      clear HM HW
      obtain ⟨O, hO⟩ : ∃ O, wr.heap.size = O := ⟨_, rfl⟩
      obtain ⟨V, hV⟩ : ∃ V, (wr.alloc (.cells #[.int .i64 0, .int .i64 1, .int .i64 2, .int .i64 3, .int .i64 0, .int .i64 1, .int .i64 2, .int .i64 3, .int .i64 (v : Int)] 3)).heap.size = V := ⟨_, rfl⟩
      have HOB := hid ((blkN wr 3 #[.int .i64 0, .int .i64 1, .int .i64 2, .int .i64 3, .int .i64 0, .int .i64 1, .int .i64 2, .int .i64 3, .int .i64 (v : Int)] O hO).below' (bnew (bnil _) (.cells #[.int .i64 1, .int .i64 1, .int .i64 1, .int .i64 1, .int .i64 2, .int .i64 2, .int .i64 2, .int .i64 2, .int .i64 3] 3)))
      have HVB := hid (blkN (wr.alloc (.cells #[.int .i64 0, .int .i64 1, .int .i64 2, .int .i64 3, .int .i64 0, .int .i64 1, .int .i64 2, .int .i64 3, .int .i64 (v : Int)] 3)) 3 #[.int .i64 1, .int .i64 1, .int .i64 1, .int .i64 1, .int .i64 2, .int .i64 2, .int .i64 2, .int .i64 2, .int .i64 3] V hV)
      have BC := hid (bnew (bnew (bnil wr) (.cells #[.int .i64 0, .int .i64 1, .int .i64 2, .int .i64 3, .int .i64 0, .int .i64 1, .int .i64 2, .int .i64 3, .int .i64 (v : Int)] 3)) (.cells #[.int .i64 1, .int .i64 1, .int .i64 1, .int .i64 1, .int .i64 2, .int .i64 2, .int .i64 2, .int .i64 2, .int .i64 3] 3))
      have hOV : V = O + 1 := by rw [← hV, World.size_alloc, hO]
      go_upto_region 14 with fail
      subst hOV
      obtain ⟨V', hV'⟩ : ∃ V', O + 1 = V' := ⟨_, rfl⟩
      rw [hV'] at HVB ⊢
      have HXC := hid (HX.out.below' BC.out)
      have HMC := hid (HMA.out.below BC.out)
      have HWC := hid (HWS.out.below BC.out)
      have BC := hid (bgo BR.out BC.out)
      clear hO hV hV' HX HMA HWS BR
      generalize World.alloc (World.alloc wr _) _ = wC at *
      have HSE := hid (fun i (hi : i ≤ 400) => rs_end hv4 hi)
      go_wp2_with fail
      go_loopw [9, 12] (fun vv o wr => ∃ (d N : Nat) (As : Option Addr) (cs : Nat), d ≤ 9 ∧ o = .int .i64 d ∧ vv = .slice As N cs ∧ Hid ((partsS (rsT v) rsC d).length = N) ∧ N ≤ cs ∧ Hid (Ow wC wr 3 1 gI (.slice As N cs) (nats (partsS (rsT v) rsC d)))) (fun _ o _ => 9 - (intOf o).toNat)
      case atStart => exact ⟨0, 0, none, 0, Nat.zero_le _, rfl, rfl, hid rfl, Nat.le_refl _, hid (Ow.nil _ _ _ _)⟩
      case round =>
        obtain ⟨d, N, As, cs, hd, rfl, rfl, HN, hcs, HO⟩ := hrel
        by_cases hlt : d < 9
        · have j1 : (d : Int) < 9 := by omega
          have hc7 : rsC d ≤ 7 := by unfold rsC; split <;> (try split) <;> omega
          have hdN := parts_len (tD := rsT v) (cD := rsC) (c := 7) (fun d => by unfold rsC; split <;> (try split) <;> omega) d
          obtain ⟨t, ht⟩ : ∃ t, rsT v d = t := ⟨_, rfl⟩
          have ht4 : t < 4 := by rw [← ht]; unfold rsT; split <;> omega
          obtain ⟨q, hq⟩ : ∃ q, rsW d = q := ⟨_, rfl⟩
          have HTD := hid ht; have HQD := hid hq
          clear ht hq
          go_wp2_with fail
          go_loopw [9, 13] (fun vv o wx => ∃ (i N : Nat) (As : Option Addr) (cs : Nat), i ≤ rsC d ∧ o = .int .i64 i ∧ vv = .slice As N cs ∧ N ≤ cs ∧ Hid ((partsS (rsT v) rsC d ++ List.replicate i t).length = N) ∧ Hid (Ow wC wx 3 1 gI (.slice As N cs) (nats (partsS (rsT v) rsC d ++ List.replicate i t)))) (fun _ o _ => 100 - (intOf o).toNat)
          case atStart => exact ⟨0, N, As, cs, Nat.zero_le _, rfl, rfl, hcs, (by rw [List.replicate_zero, List.append_nil]; exact HN), (by rw [List.replicate_zero, List.append_nil]; exact HO)⟩
          case round =>
            clear HO HN
            obtain ⟨i, N, As, cs, hi, rfl, rfl, hcs, HN, HO⟩ := hrel
            have i1 : ¬ (100 : Int) < (i : Int) := by omega
            have HX1 := hid (HXC.out.below' HO.out.below)
            have y0 : wr.cell? ⟨X, 0, none⟩ = some (.slice AW 1 cW) := HX1.out.cell 0
            have y1 : wr.cell? ⟨X, 1, none⟩ = some (.slice (some ⟨Cb, 0, none⟩) 5 5) := HX1.out.cell 1
            have y2 : wr.cell? ⟨X, 2, none⟩ = some (.slice (some ⟨T, 0, none⟩) 4 4) := HX1.out.cell 2
            have HTR := hid (HT.out.below (bgo BC.out HO.out.below))
            have HMR := hid (HMC.out.below HO.out.below)
            have HWR := hid (HWC.out.below HO.out.below)
            have HSR := hid (show Sl wr 1 As N (ints ((partsS (rsT v) rsC d ++ List.replicate i t : List Nat).map fun x : Nat => (x : Int))) from HO.out.sl)
            have hN6 : N ≤ 6000 := by
              rw [← HN.out, List.length_append, List.length_replicate]
              omega
            have HLT := hid (show ∀ x ∈ partsS (rsT v) rsC d ++ List.replicate i t, x < 4 by rw [← HTD.out]; exact rs_mem v hv4 d i)
            have hse := rs_part hv4 hlt hi
            rw [HTD.out, HQD.out] at hse
            have HNE := hid hse.1
            have HEN := hid hse.2
            clear hse
            go_wp2_with fail
            refine (ran_of AW (some ⟨Cb, 0, none⟩) (some ⟨T, 0, none⟩) As 1 cW 5 5 4 4 N cs (rsM v) (partsS (rsT v) rsC d ++ List.replicate i t) wr (by decide) (by decide) (by decide) hN6 hcs HTR.out HMR.out HWR.out HSR.out HLT.out HNE.out (play_fin _ _)).mono ?_
            rintro e w5 hp3
            obtain ⟨v3, rs, rfl, hrow, hrs, htold, b3⟩ := hp3
            obtain ⟨A3, c3, rfl, hc3, hc3'⟩ := own_form hrow
            obtain ⟨LD, hLD⟩ : ∃ LD, rs.length = LD := ⟨_, rfl⟩
            rw [hLD] at hrow hc3 ⊢
            have HD := hid (DsAt.mk hLD hrow htold)
            rw [← hrs] at HEN
            have HO5 := hid (HO.out.step b3)
            clear hrow htold hrs b3 hLD y0 y1 y2 HX1 HTR HMR HWR HSR HLT HNE HO
            unfold maxLen at hc3'
            have HOC : ∀ wz, Below w5.heap.size w5 wz → wz.cell? ⟨O, d, none⟩ = some (.int .i64 (t : Int)) ∧ wz.cell? ⟨V', d, none⟩ = some (.int .i64 (q : Int)) := fun wz hz => by
              have h1 := (HOB.out.below' (bgo HO5.out.below hz)).cell d
              have h2 := (HVB.out.below' (bgo HO5.out.below hz)).cell d
              have htt := HTD.out; have hqq := HQD.out
              rw [h1, h2, ← htt, ← hqq]
              rcases (show d = 0 ∨ d = 1 ∨ d = 2 ∨ d = 3 ∨ d = 4 ∨ d = 5 ∨ d = 6 ∨ d = 7 ∨ d = 8 by omega) with rfl | rfl | rfl | rfl | rfl | rfl | rfl | rfl | rfl <;> exact ⟨rfl, rfl⟩
            have HOC := hid HOC
            go_wp2_with fail
            go_loopw [16, 17] (fun o kk wz => ∃ (k z : Nat), k ≤ LD ∧ z ≤ k ∧ kk = .int .i64 k ∧ o = .int .i64 z ∧ Hid (z = endedN ((rs.map (·.1)).take k) t) ∧ Hid (Below w5.heap.size w5 wz)) (fun _ kk _ => LD - (intOf kk).toNat)
            case atStart => exact ⟨0, 0, Nat.zero_le _, Nat.le_refl _, rfl, rfl, hid rfl, hid (bnil _)⟩
            case round =>
              obtain ⟨k, z, hk, hz, rfl, rfl, HZ, BR⟩ := hrel
              obtain ⟨o1, o2⟩ := HOC.out wr BR.out
              by_cases hlt2 : k < LD
              · have j2 : (k : Int) < (LD : Int) := by omega
                obtain ⟨b9, d2, At, ct, rfl, hd2, lt9, u0, u1, u2, u3, u4, ut⟩ := (HD.out.below BR.out).at_ hlt2
                have HE := hid (ended_take t hd2)
                clear hd2 ut o2
                by_cases htt : d2.t = t
                · have f1 : ((d2.t : Int) == (t : Int)) = true := beqT (by omega)
                  cases he : d2.e with
                  | none =>
                    have e1 : eI d2.e = -1 := by rw [he]; rfl
                    rw [e1] at u1
                    have HZ1 := hid (show z = endedN ((rs.map (·.1)).take (k + 1)) t by rw [HE.out, he, HZ.out]; simp)
                    clear e1 he
                    go_wp2_with fail
                    go_quiet (fail)
                    have BR1 := hid (below_drewN BR.out nq)
                    go_wp2_with fail
                    go_roundw
                    case rel => first | exact ⟨k + 1, z, by omega, by omega, by go_num, by go_num, HZ1, BR1⟩ | exact ⟨k + 1, by omega, z, by omega, by go_num, by go_num, HZ1⟩ | exact ⟨k + 1, by omega, z, by omega, by go_num, by go_num, HZ1, BR1⟩ | exact ⟨k + 1, by omega, by omega, by go_num, HZ1, BR1⟩ | exact ⟨k + 1, by omega, by omega, by go_num, HZ1⟩ | (trace_state; fail)
                    case measure => simp [intOf]; omega
                  | some e2 =>
                    have e1 : eI d2.e = (e2 : Int) := by rw [he]; rfl
                    rw [e1] at u1
                    have HZ1 := hid (show z + 1 = endedN ((rs.map (·.1)).take (k + 1)) t by rw [HE.out, he, HZ.out, htt]; simp)
                    have en : ((e2 : Int) != -1) = true := bneT (by omega)
                    clear e1 he
                    go_wp2_with fail
                    go_quiet (fail)
                    have BR1 := hid (below_drewN BR.out nq)
                    go_wp2_with fail
                    go_roundw
                    case rel => first | exact ⟨k + 1, z + 1, by omega, by omega, by go_num, by go_num, HZ1, BR1⟩ | exact ⟨k + 1, by omega, z + 1, by omega, by go_num, by go_num, HZ1⟩ | exact ⟨k + 1, by omega, z + 1, by omega, by go_num, by go_num, HZ1, BR1⟩ | exact ⟨k + 1, by omega, by omega, by go_num, HZ1, BR1⟩ | exact ⟨k + 1, by omega, by omega, by go_num, HZ1⟩ | (trace_state; fail)
                    case measure => simp [intOf]; omega
                · have f1 : ((d2.t : Int) == (t : Int)) = false := beqF (by omega)
                  have HZ1 := hid (show z = endedN ((rs.map (·.1)).take (k + 1)) t by rw [HE.out, HZ.out]; simp [htt])
                  go_wp2_with fail
                  go_quiet (fail)
                  have BR1 := hid (below_drewN BR.out nq)
                  go_wp2_with fail
                  go_roundw
                  case rel => first | exact ⟨k + 1, z, by omega, by omega, by go_num, by go_num, HZ1, BR1⟩ | exact ⟨k + 1, by omega, z, by omega, by go_num, by go_num, HZ1⟩ | exact ⟨k + 1, by omega, z, by omega, by go_num, by go_num, HZ1, BR1⟩ | exact ⟨k + 1, by omega, by omega, by go_num, HZ1, BR1⟩ | exact ⟨k + 1, by omega, by omega, by go_num, HZ1⟩ | (trace_state; fail)
                  case measure => simp [intOf]; omega
              · obtain rfl : k = LD := by omega
                have j2 : ¬ (k : Int) < (k : Int) := by omega
                have hz2 : z = endedN (rs.map (·.1)) t := by rw [HZ.out, List.take_of_length_le (by rw [List.length_map, HD.out.len]; exact Nat.le_refl _)]
                have hen := HEN.out
                rw [← hz2] at hen
                have HO6 := hid (HO5.out.step BR.out)
                clear hz2
                by_cases hic : i < rsC d
                · have hzq := hen.2 hic
                  have k1 : ¬ ((q : Int) ≤ (z : Int)) := by omega
                  obtain ⟨y, hy⟩ : ∃ y, nats (partsS (rsT v) rsC d ++ List.replicate i t) ++ [(t : Int)] = y := ⟨_, rfl⟩
                  have HYE := hid (show y = nats (partsS (rsT v) rsC d ++ List.replicate (i + 1) t) by rw [← hy]; unfold nats; rw [List.replicate_succ', ← List.append_assoc, List.map_append (l₁ := partsS (rsT v) rsC d ++ List.replicate i t)]; rfl)
                  have HY := hid hy
                  have HYN := hid (show y.length = N + 1 by rw [← hy, List.length_append, List.length_map, HN.out]; rfl)
                  clear hy hen hzq
                  go_wp2_with (at_builtin; refine wpList_appY elmI gI_one rfl (.tmp 108) (.tmp 113) rfl (.slice As N cs) _ rfl (HO6.out.alloc _) [(t : Int)] y HY rfl (Sl.fresh wr #[_] 3 1 1 rfl) (by go_num) (by rw [HYN.out]; simp only [maxLen]; omega) (by rw [HYN.out]; omega) ?_; intro A4 c4 w4 hc4 hc5 HN4 HG4 HB4)
                  go_roundw
                  case rel => exact ⟨i + 1, N + 1, A4, c4, by omega, by go_num, by rw [HYN.out], by rw [HYN.out] at hc4; exact hc4, hid (by have h1 := HN.out; rw [List.length_append, List.length_replicate] at h1 ⊢; omega), hid (by have h1 := HN4.out; rw [HYN.out] at h1; rw [← HYE.out]; exact h1)⟩
                  case measure => simp [intOf]; omega
                · obtain rfl : i = rsC d := by omega
                  have hzq : q ≤ z := by
                    rcases Nat.lt_or_ge z q with h | h
                    · exact absurd (hen.1 h) (by omega)
                    · exact h
                  have k1 : (q : Int) ≤ (z : Int) := by omega
                  clear hen hzq
                  go_wp2_with fail
                  go_roundw
                  case rel => exact ⟨d + 1, N, As, cs, by omega, by go_num, rfl, hid (by rw [partsS, show rsT v d = t from HTD.out]; exact HN.out), hcs, hid (by rw [partsS, show rsT v d = t from HTD.out]; exact HO6.out)⟩
                  case measure => simp [intOf]; omega
        · obtain rfl : d = 9 := by omega
          have j1 : ¬ (((9 : Nat) : Int) < 9) := by omega
          obtain ⟨p0, hp0⟩ : ∃ p0, partsS (rsT v) rsC 9 = p0 := ⟨_, rfl⟩
          have hp54 : p0.length ≤ 63 := by rw [← hp0]; exact parts_len (tD := rsT v) (cD := rsC) (c := 7) (fun d => by unfold rsC; split <;> (try split) <;> omega) 9
          rw [hp0] at HN HO HSE
          have HMEM := hid (fun i => rs_mem2 v hv4 i)
          rw [hp0] at HMEM
          clear hp0
          obtain ⟨a1, ha1'⟩ : ∃ a1, (v + 1) % 4 = a1 := ⟨_, rfl⟩
          obtain ⟨a2, ha2'⟩ : ∃ a2, (v + 2) % 4 = a2 := ⟨_, rfl⟩
          have em1 : ((v : Int) + 1).tmod 4 = (a1 : Int) := by rw [Int.tmod_eq_emod_of_nonneg (by omega), ← ha1']; omega
          have em2 : ((v : Int) + 2).tmod 4 = (a2 : Int) := by rw [Int.tmod_eq_emod_of_nonneg (by omega), ← ha2']; omega
          have hA12 : a1 < 4 ∧ a2 < 4 := by omega
          have HA1 := hid ha1'; have HA2 := hid ha2'
          clear ha1' ha2'
          go_wp2_with fail
          go_loopw [9, 18] (fun vv o wx => ∃ (i N : Nat) (As : Option Addr) (cs : Nat), i ≤ wt ∧ o = .int .i64 i ∧ vv = .slice As N cs ∧ N ≤ cs ∧ Hid ((p0 ++ rsP v i).length = N) ∧ Hid (Ow wC wx 3 1 gI (.slice As N cs) (nats (p0 ++ rsP v i)))) (fun _ o _ => wt - (intOf o).toNat)
          case atStart => exact ⟨0, N, As, cs, Nat.zero_le _, rfl, rfl, hcs, (by rw [show p0 ++ rsP v 0 = p0 from List.append_nil p0]; exact HN), (by rw [show p0 ++ rsP v 0 = p0 from List.append_nil p0]; exact HO)⟩
          case round =>
            clear HO HN
            obtain ⟨i, N, As, cs, hi, rfl, rfl, hcs, HN, HO⟩ := hrel
            have hN6 : N ≤ 5000 := by rw [← HN.out, List.length_append, rsP_len]; omega
            go_wp2_with fail
            refine (picked xw 400 wr (by decide) hb hb1 (by decide)).mono ?_
            rintro e w' ⟨rfl, rfl⟩
            rw [HWT.out]
            by_cases hi2 : i < wt
            · have j2 : (i : Int) < (wt : Int) := by omega
              obtain ⟨y, hy⟩ : ∃ y, nats (p0 ++ rsP v i) ++ [(a1 : Int), (a2 : Int)] = y := ⟨_, rfl⟩
              have HYE := hid (show y = nats (p0 ++ rsP v (i + 1)) by rw [← hy, rsP, HA1.out, HA2.out]; unfold nats; rw [← List.append_assoc, List.map_append (l₁ := p0 ++ rsP v i)]; rfl)
              have HY := hid hy
              have HYN := hid (show y.length = N + 2 by rw [← hy, List.length_append, List.length_map, HN.out]; rfl)
              clear hy
              go_wp2_with (at_builtin; refine wpList_appY elmI gI_one rfl (.tmp 121) (.tmp 128) rfl (.slice As N cs) _ rfl (HO.out.alloc _) [(a1 : Int), (a2 : Int)] y HY rfl (Sl.fresh wr #[_, _] 3 1 2 rfl) (by go_num) (by rw [HYN.out]; simp only [maxLen]; omega) (by rw [HYN.out]; omega) ?_; intro A4 c4 w4 hc4 hc5 HN4 HG4 HB4)
              go_roundw
              case rel => exact ⟨i + 1, N + 2, A4, c4, by omega, by go_num, by rw [HYN.out], by rw [HYN.out] at hc4; exact hc4, hid (by have h1 := HN.out; rw [List.length_append, rsP_len] at h1 ⊢; omega), hid (by have h1 := HN4.out; rw [HYN.out] at h1; rw [← HYE.out]; exact h1)⟩
              case measure => simp [intOf]; omega
            · obtain rfl : i = wt := by omega
              have j2 : ¬ (i : Int) < (i : Int) := by omega
              have HX1 := hid (HXC.out.below' HO.out.below)
              have y0 : wr.cell? ⟨X, 0, none⟩ = some (.slice AW 1 cW) := HX1.out.cell 0
              have y1 : wr.cell? ⟨X, 1, none⟩ = some (.slice (some ⟨Cb, 0, none⟩) 5 5) := HX1.out.cell 1
              have y2 : wr.cell? ⟨X, 2, none⟩ = some (.slice (some ⟨T, 0, none⟩) 4 4) := HX1.out.cell 2
              have HTR := hid (HT.out.below (bgo BC.out HO.out.below))
              have HMR := hid (HMC.out.below HO.out.below)
              have HWR := hid (HWC.out.below HO.out.below)
              have HSR := hid (show Sl wr 1 As N (ints ((p0 ++ rsP v i : List Nat).map fun x : Nat => (x : Int))) from HO.out.sl)
              have HLT := hid (HMEM.out i)
              have HNER := hid (HSE.out i (by omega)).1
              have HEA := hid (HSE.out i (by omega)).2
              go_wp2_with fail
              refine (ran_of AW (some ⟨Cb, 0, none⟩) (some ⟨T, 0, none⟩) As 1 cW 5 5 4 4 N cs (rsM v) (p0 ++ rsP v i) wr (by decide) (by decide) (by decide) (by omega) hcs HTR.out HMR.out HWR.out HSR.out HLT.out HNER.out (play_fin _ _)).mono ?_
              rintro e w5 hp3
              obtain ⟨v3, rs, rfl, hrow, hrs, htold, b3⟩ := hp3
              obtain ⟨A3, c3, rfl, hc3, hc3'⟩ := own_form hrow
              obtain ⟨LD, hLD⟩ : ∃ LD, rs.length = LD := ⟨_, rfl⟩
              rw [hLD] at hrow hc3 ⊢
              have HD := hid (DsAt.mk hLD hrow htold)
              rw [← hrs] at HEA
              have B5 := hid (bgo (bgo BC.out HO.out.below) b3)
              clear hrow htold hrs b3 hLD y0 y1 y2 HX1 HTR HMR HWR HSR HLT HNER HO HSE
              unfold maxLen at hc3'
              go_wp2_with fail
              go_loopw [21] (fun kk wz => ∃ (k : Nat), k ≤ LD ∧ kk = .int .i64 k ∧ Hid (Below w5.heap.size w5 wz)) (fun kk _ => LD - (intOf kk).toNat)
              case atStart => exact ⟨0, Nat.zero_le _, rfl, hid (bnil _)⟩
              case round =>
                obtain ⟨k, hk, rfl, BZ⟩ := hrel
                by_cases hlt2 : k < LD
                · have j3 : (k : Int) < (LD : Int) := by omega
                  obtain ⟨b9, d2, At, ct, rfl, hd2, lt9, u0, u1, u2, u3, u4, ut⟩ := (HD.out.below BZ.out).at_ hlt2
                  have hea := HEA.out d2 (List.mem_of_getElem? hd2)
                  clear hd2 ut
                  by_cases htv : d2.t = v
                  · have f1 : ((d2.t : Int) == (v : Int)) = true := beqT (by omega)
                    clear hea
                    rw [show (d2.t : Int) = (v : Int) by omega] at u2
                    clear htv f1
                    go_wp2_with fail
                    go_roundw
                    case rel => exact ⟨k + 1, by omega, by go_num, BZ⟩
                    case measure => simp [intOf]; omega
                  · have f1 : ¬ ((d2.t : Int) = (v : Int)) := by omega
                    by_cases hc2 : d2.c = 2
                    · have he := hea htv hc2
                      have e1 : eI d2.e = -1 := by rw [he]; rfl
                      rw [e1] at u1
                      rw [hc2] at u3
                      clear e1 he hea hc2 htv
                      go_wp2_with fail
                      go_roundw
                      case rel => exact ⟨k + 1, by omega, by go_num, BZ⟩
                      case measure => simp [intOf]; omega
                    · have f2 : ¬ ((d2.c : Int) = 2) := by omega
                      clear hea htv
                      go_wp2_with fail
                      go_roundw
                      case rel => exact ⟨k + 1, by omega, by go_num, BZ⟩
                      case measure => simp [intOf]; omega
                · obtain rfl : k = LD := by omega
                  have j3 : ¬ (k : Int) < (k : Int) := by omega
                  go_wp2_with fail
                  go_ret
                  exact ⟨rfl, bgo B5.out BZ.out⟩
end Go.Proofs.YtnoinojhocicjaaDoor
