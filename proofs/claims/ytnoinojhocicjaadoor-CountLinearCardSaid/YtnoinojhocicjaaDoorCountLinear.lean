/-
  CountLinear: its walk. Written by gen_countlin.py.
-/
import Derived.Test.YtnoinojhocicjaaDoorLinear
import Derived.Test.YtnoinojhocicjaaDoorCountAllMem
namespace Go.Proofs.YtnoinojhocicjaaDoor
open Go.RowKit
set_option linter.unusedVariables false

def countM3 (xs : List Int) : Mach := ⟨[0], [addCode, getCode], (List.range 3).map (countThs xs 9)⟩
theorem countM3_th {xs : List Int} {n : Nat} {calls : List VCall} (h : (countM3 xs).threads[n]? = some calls) : n < 3 ∧ calls = countThs xs 9 n := by
  unfold countM3 at h
  rw [List.getElem?_map] at h
  obtain ⟨u, hu, rfl⟩ := Option.map_eq_some_iff.1 h
  rw [List.getElem?_eq_some_iff] at hu
  obtain ⟨h1, h2⟩ := hu
  simp at h1 h2
  exact ⟨h1, by rw [h2]⟩
theorem countM3_ok (xs : List Int) : CntM (countM3 xs) := by
  refine ⟨rfl, rfl, rfl, fun n calls nx c hc hcc => ?_⟩
  obtain ⟨_, rfl⟩ := countM3_th hc
  exact countThs_memB xs 9 n c (List.mem_of_getElem? hcc)
theorem callM3 {cs : List Int} {n c : Nat} {x : VCall} (h : callOf (countM3 cs) n c = some x) : n < 3 ∧ (countThs cs 9 n)[c]? = some x := by
  unfold callOf at h
  rw [Option.bind_eq_some_iff] at h
  obtain ⟨calls, h1, h2⟩ := h
  obtain ⟨hn, rfl⟩ := countM3_th h1
  exact ⟨hn, h2⟩
theorem count3_at {w : World} {B Cb T : Nat} {cv tv : Nat → Value} {av : Nat → List SV} {xs : List Int} (h : MN B w 2 3 Cb T cv (fun i => [addCode, getCode].getD i []) tv (countThs xs 9) av) : MachAt w (some ⟨Cb, 0, none⟩) 2 (some ⟨T, 0, none⟩) 3 (countM3 xs) := by
  refine h.at_ rfl rfl (fun i hi => ?_) (fun j hj => ?_)
  · rcases (show i = 0 ∨ i = 1 by omega) with rfl | rfl
    · exact ⟨by decide, add_sh⟩
    · exact ⟨by decide, get_sh⟩
  · refine ⟨by have := countThs_len xs 9 j; omega, fun c hc => ?_⟩
    rcases countThs_memB xs 9 j c hc with rfl | ⟨a, rfl, _⟩ <;> simp
theorem count3_code {w : World} {B Cb T : Nat} {cv tv : Nat → Value} {av : Nat → List SV} {th : Nat → List VCall} (h : MN B w 2 3 Cb T cv (fun i => [addCode, getCode].getD i []) tv th av) : (∃ A c, w.cell? ⟨Cb, 0, none⟩ = some (.slice A 5 c)) ∧ ∃ A c, w.cell? ⟨Cb, 1, none⟩ = some (.slice A 2 c) := by
  obtain ⟨A, c, e, _⟩ := own_form (h.os 0 (by decide))
  obtain ⟨A', c', e', _⟩ := own_form (h.os 1 (by decide))
  exact ⟨⟨A, c, by rw [h.cb.cell 0, arrN_at cv (by decide : 0 < 2), e]; rfl⟩, ⟨A', c', by rw [h.cb.cell 1, arrN_at cv (by decide : 1 < 2), e']; rfl⟩⟩
/-- what is known of the calls of a run -/
structure LinR (m : Mach) (ds : List Dg) : Prop where
  lin : Lin ds.length 0 (ds.map (actOf m))
  call : ∀ (k : Nat) (d : Dg), ds[k]? = some d → ∃ c, callOf m d.t d.c = some c ∧ OkCall c
  told : ∀ (k : Nat) (d : Dg) (e : Nat), ds[k]? = some d → d.e = some e → ∃ o, d.told = [o]
  open_ : ∀ (k : Nat) (d : Dg), ds[k]? = some d → d.e = none → d.told = []
  len : ds.length ≤ 9
theorem lin_res (xs : List Int) (l : List Nat) (hl : l.length ≤ 6000) : LinR (countM3 xs) (doings (play (countM3 xs) l).evs) := by
  have hm := countM3_ok xs
  obtain ⟨v, _, K⟩ := lin_play hm l hl
  have D := play_di (countM3 xs) l
  refine ⟨lin_count hm l hl, K.kv.call, fun k d e hk he => ?_, fun k d hk he => D.quiet k d hk he, ?_⟩
  · obtain ⟨o, h, _⟩ := K.kv.told k d e hk he; exact ⟨o, h⟩
  · rw [len_play hm l hl]
    have h3 : (play (countM3 xs) l).ths.length = 3 := by
      have : ∀ (l : List Nat) (i : Nat) (s : PS), (prun (countM3 xs) i l s).ths.length = s.ths.length := by
        intro l
        induction l with
        | nil => intro i s; rfl
        | cons x l ih => intro i s; rw [prun, ih, pstep_len]
      unfold play; rw [this]; simp [pinit, countM3]
    have hn : ∀ (n : Nat) (p : PT), (play (countM3 xs) l).ths[n]? = some p → p.next ≤ 3 := by
      intro n p hp
      rcases Nat.lt_or_ge 3 p.next with h | h
      · obtain ⟨k, d, hk, hdt, hdc⟩ := D.ths n p hp 3 h
        obtain ⟨c, hc, _⟩ := K.kv.call k d hk
        obtain ⟨hn3, hcc⟩ := callM3 hc
        have := (List.getElem?_eq_some_iff.1 hcc).1
        rw [hdt, hdc] at *
        have h4 := countThs_three xs n hn3
        omega
      · exact h
    match h : (play (countM3 xs) l).ths, h3 with
    | [p0, p1, p2], _ =>
      have a0 := hn 0 p0 (by rw [h]; rfl)
      have a1 := hn 1 p1 (by rw [h]; rfl)
      have a2 := hn 2 p2 (by rw [h]; rfl)
      simp; omega
theorem sees3y {W w' : World} {p q r : Addr} {u v x : Value} (h : Below W.heap.size W w') (hp : W.cell? p = some u) (hq : W.cell? q = some v) (hr : W.cell? r = some x) : w'.cell? p = some u ∧ w'.cell? q = some v ∧ w'.cell? r = some x := ⟨cell_below h hp, cell_below h hq, cell_below h hr⟩
theorem sees6b {W w' : World} {p1 p2 p3 p4 p5 p6 : Addr} {u1 u2 u3 u4 u5 u6 : Value} (h : Below W.heap.size W w') (h1 : W.cell? p1 = some u1) (h2 : W.cell? p2 = some u2) (h3 : W.cell? p3 = some u3) (h4 : W.cell? p4 = some u4) (h5 : W.cell? p5 = some u5) (h6 : W.cell? p6 = some u6) :
    w'.cell? p1 = some u1 ∧ w'.cell? p2 = some u2 ∧ w'.cell? p3 = some u3 ∧ w'.cell? p4 = some u4 ∧ w'.cell? p5 = some u5 ∧ w'.cell? p6 = some u6 := ⟨cell_below h h1, cell_below h h2, cell_below h h3, cell_below h h4, cell_below h h5, cell_below h h6⟩
theorem Ow.setA {W0 w8 : World} {v : Value} {l : List LAct} {ba : Nat} (h : Ow W0 w8 52 5 gA v l) (hb : ∀ b, v.ownBlock = some b → b ≠ ba) (hba : W0.heap.size ≤ ba) (j : Nat) (u : Value) : Ow W0 (w8.setCell ⟨ba, j, none⟩ u) 52 5 gA v l :=
  ⟨own_chg h.own ((Chg.refl (fun k => k = ba) w8).setCell (p := ⟨ba, j, none⟩) (fun _ => rfl) u) (fun k hk e => hb k hk e), h.below.setCell (p := ⟨ba, j, none⟩) hba u⟩
set_option maxHeartbeats 8000000 in
set_option maxRecDepth 100000 in
theorem law_countLinear (D : Option Addr) (r s : Nat) (cs : List Int) (S : Option Addr) (p q : Nat) (bs : List UInt8) (w : World)
    (hr : r ≤ s) (hs : s ≤ maxLen) (_ : s * 8 ≤ 140737488351232) (hD : Sl w 1 D r (ints cs)) (hcs : ∀ x ∈ cs, -9223372036854775808 ≤ x ∧ x ≤ 9223372036854775807)
    (hp : p ≤ q) (hq : q ≤ maxLen) (_ : q * 1 ≤ 140737488351232) (hS : Sl w 1 S p (byts bs)) (hT : STab w) :
    Calls Tryd.prog 7 #[.slice D r s, .slice S p q] w fun e w' => e = .returned (.bool true) ∧ Below w.heap.size w w' := by
  have HDD := hid hD; have HCS := hid hcs; have HS := hid hS; have HT := hid hT
  clear hD hcs hS hT
  have hpl : p ≤ 9223372036854775807 := by unfold maxLen at hq; omega
  have hrl : r ≤ 9223372036854775807 := by unfold maxLen at hs; omega
  clear hq hs
  go_enter Tryd.func7, Tryd.ntmps7
  go_wp2_with fail
  refine (count_machine D r s cs w hrl HDD.out HCS.out).mono ?_
  rintro e w1 hp1
  obtain ⟨AW, cW, Cb, T, cv, tv, av, rfl, hW, hM, b1⟩ := hp1
  have HM := hid hM; have B1 := hid b1; have HW := hid hW
  clear hM b1 hW
  obtain ⟨X, hX⟩ : ∃ X, w1.heap.size = X := ⟨_, rfl⟩
  have HX00 := hid hX
  clear hX
  go_upto_region 2 with fail
  have hX := HX00.out
  rw [hX]
  have HX0 := hid (blkN w1 27 #[.slice AW 1 cW, .slice (some ⟨Cb, 0, none⟩) 2 2, .slice (some ⟨T, 0, none⟩) 3 3] X hX)
  have BA := hid (bgo B1.out (bnew (bnil w1) (.cells #[.slice AW 1 cW, .slice (some ⟨Cb, 0, none⟩) 2 2, .slice (some ⟨T, 0, none⟩) 3 3] 27)))
  have HMA := hid (HM.out.below (bnew (bnil w1) (.cells #[.slice AW 1 cW, .slice (some ⟨Cb, 0, none⟩) 2 2, .slice (some ⟨T, 0, none⟩) 3 3] 27)))
  have HWA := hid (own_below HW.out (bnew (bnil w1) (.cells #[.slice AW 1 cW, .slice (some ⟨Cb, 0, none⟩) 2 2, .slice (some ⟨T, 0, none⟩) 3 3] 27)))
  generalize World.alloc w1 (.cells #[.slice AW 1 cW, .slice (some ⟨Cb, 0, none⟩) 2 2, .slice (some ⟨T, 0, none⟩) 3 3] 27) = wA at *
  clear hX HM HW
  have x0 : wA.cell? ⟨X, 0, none⟩ = some (.slice AW 1 cW) := HX0.out.cell 0
  have x1 : wA.cell? ⟨X, 1, none⟩ = some (.slice (some ⟨Cb, 0, none⟩) 2 2) := HX0.out.cell 1
  have x2 : wA.cell? ⟨X, 2, none⟩ = some (.slice (some ⟨T, 0, none⟩) 3 3) := HX0.out.cell 2
  have HTA := hid (HT.out.below BA.out)
  refine wp_region_held_drew (S := (fun w' => w'.cell? ⟨X, 0, none⟩ = some (.slice AW 1 cW) ∧ w'.cell? ⟨X, 1, none⟩ = some (.slice (some ⟨Cb, 0, none⟩) 2 2) ∧ w'.cell? ⟨X, 2, none⟩ = some (.slice (some ⟨T, 0, none⟩) 3 3))) (by kernel_rfl) ?_ (fun hHeld => ?_)
  · (try dsimp only); (first | assumption | exact ⟨x0, x1, x2⟩ | exact sees3y BX3.out x0 x1 x2 | exact sees3y BX2.out x0 x1 x2 | (refine sees3y ?_ x0 x1 x2; (repeat (first | exact bnil _ | refine Below.drew ?_ | refine bnew ?_ _))))
  refine wpAnyH_take (i := 0) (oi := ⟨some 15, _, _, _, _, _⟩) (v := ?_) rfl (by kernel_rfl) (by kernel_rfl) (by kernel_rfl) (fun _ _ _ h => h) (Or.inl ⟨by rfl, ?_⟩) (by assumption) ?_
  rotate_left
  · intro w hSw; (try dsimp only at hSw); go_simp <;> with_reducible rfl
  try simp only [Act.put, List.setIfInBounds_toArray, List.set_cons_zero, List.set_cons_succ]
  refine wpAnyH_take (i := 1) (oi := ⟨some 16, _, _, _, _, _⟩) (v := ?_) rfl (by kernel_rfl) (by kernel_rfl) (by kernel_rfl) (fun _ _ _ h => h) (Or.inl ⟨by rfl, ?_⟩) (by assumption) ?_
  rotate_left
  · intro w hSw; (try dsimp only at hSw); go_simp <;> with_reducible rfl
  try simp only [Act.put, List.setIfInBounds_toArray, List.set_cons_zero, List.set_cons_succ]
  refine wpAnyH_ready (rs := [2]) (by kernel_rfl) (by simp) ?_
  refine AllReadyH.cons (o := ⟨some 17, _, _, _, _, _⟩) rfl (fun K hK => ?_) AllReadyH.nil
  go_simp
  refine (schedule_n S p q 3 400 bs wA.drew hpl (by decide) (by decide) (by decide) (HS.out.below (BA.out.drew))).mono ?_; rintro e w2 ⟨v2, rfl, ho⟩; have BX2 := hid (show Below wA.heap.size wA w2 from bgo (bnil wA).drew ho.below); obtain ⟨Al, cl, rfl, hcl, hcl2⟩ := ho.form; have HO := hid ho; clear ho; rw [show (nats (schedN bs 3 400)).length = (schedN bs 3 400).length by simp] at hcl ⊢
  go_wp2_with fail
  refine hK.out _ _ ?_ (fun hHeld => ?_)
  · (try dsimp only); (first | assumption | exact ⟨x0, x1, x2⟩ | exact sees3y BX3.out x0 x1 x2 | exact sees3y BX2.out x0 x1 x2 | (refine sees3y ?_ x0 x1 x2; (repeat (first | exact bnil _ | refine Below.drew ?_ | refine bnew ?_ _))))
  clear hK K
  try simp only [Act.put, List.setIfInBounds_toArray, List.set_cons_zero, List.set_cons_succ]
  refine wpAnyH_ready (rs := [3]) (by kernel_rfl) (by simp) ?_
  refine AllReadyH.cons (o := ⟨some 18, _, _, _, _, _⟩) rfl (fun K hK => ?_) AllReadyH.nil
  go_simp
  refine (ran_of AW (some ⟨Cb, 0, none⟩) (some ⟨T, 0, none⟩) Al 1 cW 2 2 3 3 (schedN bs 3 400).length cl (countM3 cs) (schedN bs 3 400) w2 (by decide) (by decide) (by decide) (by rw [schedN_len]; omega) hcl (HTA.out.below BX2.out) (count3_at (HMA.out.below BX2.out)) (Sl.own (own_below HWA.out BX2.out)) (by have h := HO.out.sl; rw [show (nats (schedN bs 3 400)).length = (schedN bs 3 400).length by simp] at h; exact h) (schedN_lt bs (N := 3) (by decide) 400) (count_play (countM3_ok cs) _ (by rw [schedN_len]; omega)).2 (play_fin _ _)).mono ?_; rintro e w3 hp3; obtain ⟨v3, rs, rfl, hrow, hrs, htold, b3⟩ := hp3; have BX3 := hid (show Below wA.heap.size wA w3 from bgo BX2.out b3)
  go_wp2_with fail
  refine hK.out _ _ ?_ (fun hHeld => ?_)
  · (try dsimp only); (first | assumption | exact ⟨x0, x1, x2⟩ | exact sees3y BX3.out x0 x1 x2 | exact sees3y BX2.out x0 x1 x2 | (refine sees3y ?_ x0 x1 x2; (repeat (first | exact bnil _ | refine Below.drew ?_ | refine bnew ?_ _))))
  clear hK K
  try simp only [Act.put, List.setIfInBounds_toArray, List.set_cons_zero, List.set_cons_succ]
  refine wpAnyH_take (i := 4) (oi := ⟨some 14, _, _, _, _, _⟩) (v := ?_) rfl (by kernel_rfl) (by kernel_rfl) (by kernel_rfl) (fun _ _ _ h => h) (Or.inl ⟨by rfl, ?_⟩) (by assumption) ?_
  rotate_left
  · intro w hSw; (try dsimp only at hSw); go_simp <;> with_reducible rfl
  try simp only [Act.put, List.setIfInBounds_toArray, List.set_cons_zero, List.set_cons_succ]
  refine wpAnyH_take (i := 5) (oi := ⟨some 19, _, _, _, _, _⟩) (v := ?_) rfl (by kernel_rfl) (by kernel_rfl) (by kernel_rfl) (fun _ _ _ h => h) (Or.inl ⟨by rfl, ?_⟩) (by assumption) ?_
  rotate_left
  · intro w hSw; (try dsimp only at hSw); go_simp <;> with_reducible rfl
  try simp only [Act.put, List.setIfInBounds_toArray, List.set_cons_zero, List.set_cons_succ]
  refine wpAnyH_take (i := 6) (oi := ⟨some 20, _, _, _, _, _⟩) (v := ?_) rfl (by kernel_rfl) (by kernel_rfl) (by kernel_rfl) (fun _ _ _ h => h) (Or.inl ⟨by rfl, ?_⟩) (by assumption) ?_
  rotate_left
  · intro w hSw; (try dsimp only at hSw); go_simp <;> with_reducible rfl
  try simp only [Act.put, List.setIfInBounds_toArray, List.set_cons_zero, List.set_cons_succ]
  refine wpAnyH_take (i := 7) (oi := ⟨some 6, _, _, _, _, _⟩) (v := ?_) rfl (by kernel_rfl) (by kernel_rfl) (by kernel_rfl) (fun _ _ _ h => h) (Or.inl ⟨by rfl, ?_⟩) (by assumption) ?_
  rotate_left
  · intro w hSw; (try dsimp only at hSw); go_simp <;> with_reducible rfl
  try simp only [Act.put, List.setIfInBounds_toArray, List.set_cons_zero, List.set_cons_succ]
  refine wpAnyH_take (i := 8) (oi := ⟨some 7, _, _, _, _, _⟩) (v := ?_) rfl (by kernel_rfl) (by kernel_rfl) (by kernel_rfl) (fun _ _ _ h => h) (Or.inl ⟨by rfl, ?_⟩) (by assumption) ?_
  rotate_left
  · intro w hSw; (try dsimp only at hSw); go_simp <;> with_reducible rfl
  try simp only [Act.put, List.setIfInBounds_toArray, List.set_cons_zero, List.set_cons_succ]
  refine wpAnyH_done (by kernel_rfl) ?_ _
  rotate_left
  have HR := hid (lin_res cs (schedN bs 3 400) (by rw [schedN_len]; omega))
  rw [← hrs] at HR
  obtain ⟨A3, c3, rfl, hc3, hc3'⟩ := own_form hrow
  obtain ⟨LD, hLD⟩ : ∃ LD, rs.length = LD := ⟨_, rfl⟩
  rw [hLD] at hrow hc3 ⊢
  have HD := hid (DsAt.mk hLD hrow htold)
  have hL9 : LD ≤ 9 := by have := HR.out.len; rw [List.length_map, hLD] at this; exact this
  have HLD := hid (show (rs.map (·.1)).length = LD by rw [List.length_map, hLD])
  have HX3 := hid (HX0.out.below' BX3.out)
  have H3 := hid (HMA.out.below BX3.out)
  have HT3 := hid (HTA.out.below BX3.out)
  have B3 := hid (bgo BA.out BX3.out)
  clear hrow htold hrs b3 hLD x0 x1 x2 HX0 HTA hHeld HO hcl hcl2 BX2 BX3 BA HX00
  have y0 : w3.cell? ⟨X, 0, none⟩ = some (.slice AW 1 cW) := HX3.out.cell 0
  have y1 : w3.cell? ⟨X, 1, none⟩ = some (.slice (some ⟨Cb, 0, none⟩) 2 2) := HX3.out.cell 1
  have y2 : w3.cell? ⟨X, 2, none⟩ = some (.slice (some ⟨T, 0, none⟩) 3 3) := HX3.out.cell 2
  obtain ⟨⟨Ac, cc, hAc⟩, ⟨Ac', cc', hAc'⟩⟩ := count3_code H3.out
  go_wp2_with fail
  refine (run_may AW (some ⟨Cb, 0, none⟩) (some ⟨T, 0, none⟩) 1 cW 2 2 3 3 (countM3 cs) w3 (by decide) (by decide) (by decide) HT3.out (count3_at H3.out)).mono ?_
  rintro e w4 ⟨rfl, b4⟩
  have HD4 := hid (HD.out.below b4)
  have HX4 := hid (HX3.out.below' b4)
  have H4 := hid (H3.out.below b4)
  have B4 := hid (bgo B3.out b4)
  clear b4 y0 y1 y2 hAc hAc' HD HX3 H3 HT3 B3
  go_wp2_with fail
  go_loopw [8, 9] (fun a i wz => ∃ (k : Nat) (A1 : Option Addr) (c1 : Nat), k ≤ LD ∧ i = .int .i64 k ∧ a = .slice A1 k c1 ∧ Hid (Ow w4 wz 52 5 gA (.slice A1 k c1) (((rs.map (·.1)).take k).map (actOf (countM3 cs))))) (fun _ i _ => LD - (intOf i).toNat)
  case atStart => exact ⟨0, none, 0, Nat.zero_le _, rfl, rfl, hid (Ow.nil _ _ _ _)⟩
  case round =>
    obtain ⟨k, A1, c1, hk, rfl, rfl, HO⟩ := hrel
    by_cases hlt : k < LD
    · have j1 : (k : Int) < (LD : Int) := by omega
      obtain ⟨b9, d, At, ct, rfl, hd, lt9, u0, u1, u2, u3, u4, ut⟩ := (HD4.out.below HO.out.below).at_ hlt
      have HDk := hid hd
      obtain ⟨x, hx, hxok⟩ := HR.out.call k d hd
      obtain ⟨ht3, hxc⟩ := callM3 hx
      have harg : argOf (countM3 cs) d = x.args.getD 0 0 := by unfold argOf; rw [hx]
      have HARG := hid harg
      have HUT := hid ut
      obtain ⟨uu, huu⟩ : ∃ u : SV, tv d.t = u.v := by
        obtain ⟨A, c, e, _⟩ := own_form (H4.out.rows d.t ht3).2.1
        exact ⟨⟨A, _, c⟩, e⟩
      have hrow2 := (H4.out.rows d.t ht3).below HO.out.below
      rw [huu] at hrow2
      obtain ⟨br, Aa, ca, hsvx, r0, r1, ra⟩ := hrow2.call hxc
      have c2 : wr.cell? ⟨X, 2, none⟩ = some (.slice (some ⟨T, 0, none⟩) 3 3) := (HX4.out.below' HO.out.below).cell 2
      have c3a : wr.cell? ⟨T, d.t, none⟩ = some (tv d.t) := by rw [(H4.out.below HO.out.below).tb.cell d.t]; exact arrN_at tv ht3
      obtain ⟨NL, hNL⟩ : ∃ NL, (countThs cs 9 d.t).length = NL := ⟨_, rfl⟩
      have hcl3 : d.c < NL := by rw [← hNL]; exact (List.getElem?_eq_some_iff.1 hxc).1
      rw [huu, hsvx, hNL] at c3a
      obtain ⟨cr, hcr⟩ : ∃ cr, uu.c = cr := ⟨_, rfl⟩
      rw [hcr] at c3a
      have c3 : wr.cell? ⟨T, d.t, none⟩ = some (.slice (some ⟨br, 0, none⟩) NL cr) := c3a
      clear c3a
      have it3 : (d.t : Int) < 3 := by omega
      have icl : (d.c : Int) < (NL : Int) := by omega
      have RA := hid ra
      clear hx hxc harg ut ra hsvx hNL hcr huu hrow2 hd
      obtain ⟨bc, hbc⟩ : ∃ bc, wr.heap.size = bc := ⟨_, rfl⟩
      have HBC := hid hbc
      have XC0 := hid (blkN wr 46 #[.int .i64 (x.code : Int), .slice Aa x.args.length ca] bc hbc)
      clear hbc
      go_upto_region 9 with fail
      refine wp_region_held_drew (S := (fun w' => w'.cell? ⟨X, 2, none⟩ = some (.slice (some ⟨T, 0, none⟩) 3 3) ∧ w'.cell? ⟨b9, k * 5 + 2, none⟩ = some (.int .i64 (d.t : Int)) ∧ w'.cell? ⟨T, d.t, none⟩ = some (.slice (some ⟨br, 0, none⟩) NL cr) ∧ w'.cell? ⟨b9, k * 5 + 3, none⟩ = some (.int .i64 (d.c : Int)) ∧ w'.cell? ⟨br, d.c * 2, none⟩ = some (.int .i64 (x.code : Int)) ∧ w'.cell? ⟨br, d.c * 2 + 1, none⟩ = some (.slice Aa x.args.length ca))) (by kernel_rfl) ?_ (fun hHeld => ?_)
      · (try dsimp only); (first | assumption | exact ⟨c2, u2, c3, u3, r0, r1⟩ | (refine sees6b ?_ c2 u2 c3 u3 r0 r1; (repeat (first | exact bnil _ | refine Below.drew ?_ | refine bnew ?_ _))))
      refine wpAnyH_take (i := 0) (oi := ⟨some 50, _, _, _, _, _⟩) (v := ?_) rfl (by kernel_rfl) (by kernel_rfl) (by kernel_rfl) (fun _ _ _ h => h) (Or.inl ⟨by rfl, ?_⟩) (by assumption) ?_
      rotate_left
      · intro w hSw; (try dsimp only at hSw); go_simp <;> with_reducible rfl
      try simp only [Act.put, List.setIfInBounds_toArray, List.set_cons_zero, List.set_cons_succ]
      refine wpAnyH_take (i := 1) (oi := ⟨some 51, _, _, _, _, _⟩) (v := ?_) rfl (by kernel_rfl) (by kernel_rfl) (by kernel_rfl) (fun _ _ _ h => h) (Or.inl ⟨by rfl, ?_⟩) (by assumption) ?_
      rotate_left
      · intro w hSw; (try dsimp only at hSw); go_simp <;> with_reducible rfl
      try simp only [Act.put, List.setIfInBounds_toArray, List.set_cons_zero, List.set_cons_succ]
      refine wpAnyH_take (i := 2) (oi := ⟨some 52, _, _, _, _, _⟩) (v := ?_) rfl (by kernel_rfl) (by kernel_rfl) (by kernel_rfl) (fun _ _ _ h => h) (Or.inl ⟨by rfl, ?_⟩) (by assumption) ?_
      rotate_left
      · intro w hSw; (try dsimp only at hSw); go_simp <;> with_reducible rfl
      try simp only [Act.put, List.setIfInBounds_toArray, List.set_cons_zero, List.set_cons_succ]
      refine wpAnyH_take (i := 3) (oi := ⟨some 53, _, _, _, _, _⟩) (v := ?_) rfl (by kernel_rfl) (by kernel_rfl) (by kernel_rfl) (fun _ _ _ h => h) (Or.inl ⟨by rfl, ?_⟩) (by assumption) ?_
      rotate_left
      · intro w hSw; (try dsimp only at hSw); go_simp <;> with_reducible rfl
      try simp only [Act.put, List.setIfInBounds_toArray, List.set_cons_zero, List.set_cons_succ]
      refine wpAnyH_take (i := 4) (oi := ⟨some 54, _, _, _, _, _⟩) (v := ?_) rfl (by kernel_rfl) (by kernel_rfl) (by kernel_rfl) (fun _ _ _ h => h) (Or.inl ⟨by rfl, ?_⟩) (by assumption) ?_
      rotate_left
      · intro w hSw; (try dsimp only at hSw); go_simp <;> with_reducible rfl
      try simp only [Act.put, List.setIfInBounds_toArray, List.set_cons_zero, List.set_cons_succ]
      refine wpAnyH_take (i := 5) (oi := ⟨some 55, _, _, _, _, _⟩) (v := ?_) rfl (by kernel_rfl) (by kernel_rfl) (by kernel_rfl) (fun _ _ _ h => h) (Or.inl ⟨by rfl, ?_⟩) (by assumption) ?_
      rotate_left
      · intro w hSw; (try dsimp only at hSw); go_simp <;> with_reducible rfl
      try simp only [Act.put, List.setIfInBounds_toArray, List.set_cons_zero, List.set_cons_succ]
      refine wpAnyH_take (i := 6) (oi := ⟨some 56, _, _, _, _, _⟩) (v := ?_) rfl (by kernel_rfl) (by kernel_rfl) (by kernel_rfl) (fun _ _ _ h => h) (Or.inl ⟨by rfl, ?_⟩) (by assumption) ?_
      rotate_left
      · intro w hSw; (try dsimp only at hSw); go_simp <;> with_reducible rfl
      try simp only [Act.put, List.setIfInBounds_toArray, List.set_cons_zero, List.set_cons_succ]
      refine wpAnyH_take (i := 7) (oi := ⟨some 57, _, _, _, _, _⟩) (v := ?_) rfl (by kernel_rfl) (by kernel_rfl) (by kernel_rfl) (fun _ _ _ h => h) (Or.inl ⟨by rfl, ?_⟩) (by assumption) ?_
      rotate_left
      · intro w hSw; (try dsimp only at hSw); go_simp <;> with_reducible rfl
      try simp only [Act.put, List.setIfInBounds_toArray, List.set_cons_zero, List.set_cons_succ]
      refine wpAnyH_take (i := 8) (oi := ⟨some 58, _, _, _, _, _⟩) (v := ?_) rfl (by kernel_rfl) (by kernel_rfl) (by kernel_rfl) (fun _ _ _ h => h) (Or.inl ⟨by rfl, ?_⟩) (by assumption) ?_
      rotate_left
      · intro w hSw; (try dsimp only at hSw); go_simp <;> with_reducible rfl
      try simp only [Act.put, List.setIfInBounds_toArray, List.set_cons_zero, List.set_cons_succ]
      refine wpAnyH_take (i := 9) (oi := ⟨some 59, _, _, _, _, _⟩) (v := ?_) rfl (by kernel_rfl) (by kernel_rfl) (by kernel_rfl) (fun _ _ _ h => h) (Or.inl ⟨by rfl, ?_⟩) (by assumption) ?_
      rotate_left
      · intro w hSw; (try dsimp only at hSw); go_simp <;> with_reducible rfl
      try simp only [Act.put, List.setIfInBounds_toArray, List.set_cons_zero, List.set_cons_succ]
      refine wpAnyH_take (i := 10) (oi := ⟨some 60, _, _, _, _, _⟩) (v := ?_) rfl (by kernel_rfl) (by kernel_rfl) (by kernel_rfl) (fun _ _ _ h => h) (Or.inl ⟨by rfl, ?_⟩) (by assumption) ?_
      rotate_left
      · intro w hSw; (try dsimp only at hSw); go_simp <;> with_reducible rfl
      try simp only [Act.put, List.setIfInBounds_toArray, List.set_cons_zero, List.set_cons_succ]
      refine wpAnyH_take (i := 11) (oi := ⟨some 61, _, _, _, _, _⟩) (v := ?_) rfl (by kernel_rfl) (by kernel_rfl) (by kernel_rfl) (fun _ _ _ h => h) (Or.inl ⟨by rfl, ?_⟩) (by assumption) ?_
      rotate_left
      · intro w hSw; (try dsimp only at hSw); go_simp <;> with_reducible rfl
      try simp only [Act.put, List.setIfInBounds_toArray, List.set_cons_zero, List.set_cons_succ]
      refine wpAnyH_take (i := 12) (oi := ⟨some 62, _, _, _, _, _⟩) (v := ?_) rfl (by kernel_rfl) (by kernel_rfl) (by kernel_rfl) (fun _ _ _ h => h) (Or.inl ⟨by rfl, ?_⟩) (by assumption) ?_
      rotate_left
      · intro w hSw; (try dsimp only at hSw); go_simp <;> with_reducible rfl
      try simp only [Act.put, List.setIfInBounds_toArray, List.set_cons_zero, List.set_cons_succ]
      refine wpAnyH_take (i := 13) (oi := ⟨some 63, _, _, _, _, _⟩) (v := ?_) rfl (by kernel_rfl) (by kernel_rfl) (by kernel_rfl) (fun _ _ _ h => h) (Or.inl ⟨by rfl, ?_⟩) (by assumption) ?_
      rotate_left
      · intro w hSw; (try dsimp only at hSw); go_simp <;> with_reducible rfl
      try simp only [Act.put, List.setIfInBounds_toArray, List.set_cons_zero, List.set_cons_succ]
      refine wpAnyH_take (i := 14) (oi := ⟨some 64, _, _, _, _, _⟩) (v := ?_) rfl (by kernel_rfl) (by kernel_rfl) (by kernel_rfl) (fun _ _ _ h => h) (Or.inl ⟨by rfl, ?_⟩) (by assumption) ?_
      rotate_left
      · intro w hSw; (try dsimp only at hSw); go_simp <;> with_reducible rfl
      try simp only [Act.put, List.setIfInBounds_toArray, List.set_cons_zero, List.set_cons_succ]
      refine wpAnyH_take (i := 15) (oi := ⟨some 65, _, _, _, _, _⟩) (v := ?_) rfl (by kernel_rfl) (by kernel_rfl) (by kernel_rfl) (fun _ _ _ h => h) (Or.inl ⟨by rfl, ?_⟩) (by assumption) ?_
      rotate_left
      · intro w hSw; (try dsimp only at hSw); go_simp <;> with_reducible rfl
      try simp only [Act.put, List.setIfInBounds_toArray, List.set_cons_zero, List.set_cons_succ]
      refine wpAnyH_ready (rs := [16]) (by kernel_rfl) (by simp) ?_
      refine AllReadyH.cons (o := ⟨some 10, _, _, _, _, _⟩) rfl (fun K hK => ?_) AllReadyH.nil
      go_simp
      refine hK.out _ _ ?_ (fun hHeld => ?_)
      · (try dsimp only); (first | assumption | exact ⟨c2, u2, c3, u3, r0, r1⟩ | (refine sees6b ?_ c2 u2 c3 u3 r0 r1; (repeat (first | exact bnil _ | refine Below.drew ?_ | refine bnew ?_ _))))
      clear hK K
      try simp only [Act.put, List.setIfInBounds_toArray, List.set_cons_zero, List.set_cons_succ]
      refine wpAnyH_ready (rs := [17]) (by kernel_rfl) (by simp) ?_
      refine AllReadyH.cons (o := ⟨none, _, _, _, _, _⟩) rfl (fun K hK => ?_) AllReadyH.nil
      go_simp
      refine hK.out _ _ ?_ (fun hHeld => ?_)
      · (try dsimp only); (first | assumption | exact ⟨c2, u2, c3, u3, r0, r1⟩ | (refine sees6b ?_ c2 u2 c3 u3 r0 r1; (repeat (first | exact bnil _ | refine Below.drew ?_ | refine bnew ?_ _))))
      clear hK K
      try dsimp only [Act.put]
      refine wpAnyH_done (by kernel_rfl) ?_ _
      rotate_left
      have hbc := HBC.out
      have B7 := hid ((bnew (bnil wr) (.cells #[.int .i64 (x.code : Int), .slice Aa x.args.length ca] 46)).drew)
      have XC := hid (show Blk ((wr.alloc (.cells #[.int .i64 (x.code : Int), .slice Aa x.args.length ca] 46)).drew) bc 46 #[.int .i64 (x.code : Int), .slice Aa x.args.length ca] from XC0.out)
      rw [hbc]
      clear hbc XC0
      generalize World.drew (World.alloc wr (.cells #[.int .i64 (x.code : Int), .slice Aa x.args.length ca] 46)) = w7 at *
      have g0 := cell_below B7.out u0
      have g1 := cell_below B7.out u1
      have g4 := cell_below B7.out u4
      have HO7 := hid (HO.out.step B7.out)
      have RA7 := hid (own_below RA.out B7.out)
      have UT7 := hid (own_below HUT.out B7.out)
      have xc0 : w7.cell? ⟨bc, 0, none⟩ = some (.int .i64 (x.code : Int)) := XC.out.cell 0
      have xc1 : w7.cell? ⟨bc, 1, none⟩ = some (.slice Aa x.args.length ca) := XC.out.cell 1
      clear c2 c3 u0 u1 u2 u3 u4 r0 r1 RA icl it3 HUT
      obtain ⟨E1, hE1⟩ : ∃ E1, eI d.e = E1 := ⟨_, rfl⟩
      rw [hE1] at g1
      have HE1 := hid hE1
      clear hE1
      obtain ⟨pb, hpb⟩ : ∃ pb : Bool, ((x.code : Int) == 0) = pb := ⟨_, rfl⟩
      have HPB := hid hpb
      obtain ⟨ba, hba⟩ : ∃ ba, w7.heap.size = ba := ⟨_, rfl⟩
      have HBA := hid hba
      have XA0 := hid (blkN w7 52 #[.int .i64 (d.b : Int), .int .i64 E1, .bool pb, .int .i64 0, .int .i64 0] ba hba)
      have ltc := World.block_lt_of_cell? w7 _ xc0
      clear hba
      go_upto_region 10 with fail
      refine wp_region_held_drew (S := (fun w' => w'.cell? ⟨b9, k * 5, none⟩ = some (.int .i64 (d.b : Int)) ∧ w'.cell? ⟨b9, k * 5 + 1, none⟩ = some (.int .i64 E1) ∧ w'.cell? ⟨bc, 0, none⟩ = some (.int .i64 (x.code : Int)))) (by kernel_rfl) ?_ (fun hHeld => ?_)
      · (try dsimp only); (first | assumption | exact ⟨g0, g1, xc0⟩ | (refine sees3y ?_ g0 g1 xc0; (repeat (first | exact bnil _ | refine Below.drew ?_ | refine bnew ?_ _))))
      refine wpAnyH_take (i := 0) (oi := ⟨some 66, _, _, _, _, _⟩) (v := ?_) rfl (by kernel_rfl) (by kernel_rfl) (by kernel_rfl) (fun _ _ _ h => h) (Or.inl ⟨by rfl, ?_⟩) (by assumption) ?_
      rotate_left
      · intro w hSw; (try dsimp only at hSw); go_simp <;> with_reducible rfl
      try simp only [Act.put, List.setIfInBounds_toArray, List.set_cons_zero, List.set_cons_succ]
      refine wpAnyH_take (i := 1) (oi := ⟨some 67, _, _, _, _, _⟩) (v := ?_) rfl (by kernel_rfl) (by kernel_rfl) (by kernel_rfl) (fun _ _ _ h => h) (Or.inl ⟨by rfl, ?_⟩) (by assumption) ?_
      rotate_left
      · intro w hSw; (try dsimp only at hSw); go_simp <;> with_reducible rfl
      try simp only [Act.put, List.setIfInBounds_toArray, List.set_cons_zero, List.set_cons_succ]
      refine wpAnyH_take (i := 2) (oi := ⟨some 68, _, _, _, _, _⟩) (v := ?_) rfl (by kernel_rfl) (by kernel_rfl) (by kernel_rfl) (fun _ _ _ h => h) (Or.inl ⟨by rfl, ?_⟩) (by assumption) ?_
      rotate_left
      · intro w hSw; (try dsimp only at hSw); go_simp <;> with_reducible rfl
      try simp only [Act.put, List.setIfInBounds_toArray, List.set_cons_zero, List.set_cons_succ]
      refine wpAnyH_take (i := 3) (oi := ⟨some 69, _, _, _, _, _⟩) (v := ?_) rfl (by kernel_rfl) (by kernel_rfl) (by kernel_rfl) (fun _ _ _ h => h) (Or.inl ⟨by rfl, ?_⟩) (by assumption) ?_
      rotate_left
      · intro w hSw; (try dsimp only at hSw); go_simp <;> with_reducible rfl
      try simp only [Act.put, List.setIfInBounds_toArray, List.set_cons_zero, List.set_cons_succ]
      refine wpAnyH_take (i := 4) (oi := ⟨some 70, _, _, _, _, _⟩) (v := ?_) rfl (by kernel_rfl) (by kernel_rfl) (by kernel_rfl) (fun _ _ _ h => h) (Or.inl ⟨by rfl, ?_⟩) (by assumption) ?_
      rotate_left
      · intro w hSw; (try dsimp only at hSw); go_simp <;> with_reducible rfl
      try simp only [Act.put, List.setIfInBounds_toArray, List.set_cons_zero, List.set_cons_succ]
      refine wpAnyH_take (i := 5) (oi := ⟨some 71, _, _, _, _, _⟩) (v := ?_) rfl (by kernel_rfl) (by kernel_rfl) (by kernel_rfl) (fun _ _ _ h => h) (Or.inl ⟨by rfl, ?_⟩) (by assumption) ?_
      rotate_left
      · intro w hSw; (try dsimp only at hSw); go_simp <;> with_reducible rfl
      try simp only [Act.put, List.setIfInBounds_toArray, List.set_cons_zero, List.set_cons_succ]
      refine wpAnyH_take (i := 6) (oi := ⟨some 72, _, _, _, _, _⟩) (v := ?_) rfl (by kernel_rfl) (by kernel_rfl) (by kernel_rfl) (fun _ _ _ h => h) (Or.inl ⟨by rfl, ?_⟩) (by assumption) ?_
      rotate_left
      · intro w hSw; (try dsimp only at hSw); go_simp <;> with_reducible rfl
      try simp only [Act.put, List.setIfInBounds_toArray, List.set_cons_zero, List.set_cons_succ]
      refine wpAnyH_take (i := 7) (oi := ⟨some 73, _, _, _, _, _⟩) (v := ?_) rfl (by kernel_rfl) (by kernel_rfl) (by kernel_rfl) (fun _ _ _ h => h) (Or.inl ⟨by rfl, ?_⟩) (by assumption) ?_
      rotate_left
      · intro w hSw; (try dsimp only at hSw); go_simp <;> with_reducible rfl
      try simp only [Act.put, List.setIfInBounds_toArray, List.set_cons_zero, List.set_cons_succ]
      refine wpAnyH_take (i := 8) (oi := ⟨some 74, _, _, _, _, _⟩) (v := ?_) rfl (by kernel_rfl) (by kernel_rfl) (by kernel_rfl) (fun _ _ _ h => h) (Or.inl ⟨by rfl, ?_⟩) (by assumption) ?_
      rotate_left
      · intro w hSw; (try dsimp only at hSw); go_simp <;> with_reducible rfl
      try simp only [Act.put, List.setIfInBounds_toArray, List.set_cons_zero, List.set_cons_succ]
      refine wpAnyH_take (i := 9) (oi := ⟨some 75, _, _, _, _, _⟩) (v := ?_) rfl (by kernel_rfl) (by kernel_rfl) (by kernel_rfl) (fun _ _ _ h => h) (Or.inl ⟨by rfl, ?_⟩) (by assumption) ?_
      rotate_left
      · intro w hSw; (try dsimp only at hSw); go_simp <;> with_reducible rfl
      try simp only [Act.put, List.setIfInBounds_toArray, List.set_cons_zero, List.set_cons_succ]
      refine wpAnyH_take (i := 10) (oi := ⟨some 76, _, _, _, _, _⟩) (v := ?_) rfl (by kernel_rfl) (by kernel_rfl) (by kernel_rfl) (fun _ _ _ h => h) (Or.inl ⟨by rfl, ?_⟩) (by assumption) ?_
      rotate_left
      · intro w hSw; (try dsimp only at hSw); go_simp <;> with_reducible rfl
      try simp only [Act.put, List.setIfInBounds_toArray, List.set_cons_zero, List.set_cons_succ]
      refine wpAnyH_take (i := 11) (oi := ⟨some 77, _, _, _, _, _⟩) (v := ?_) rfl (by kernel_rfl) (by kernel_rfl) (by kernel_rfl) (fun _ _ _ h => h) (Or.inl ⟨by rfl, ?_⟩) (by assumption) ?_
      rotate_left
      · intro w hSw; (try dsimp only at hSw); go_simp <;> with_reducible rfl
      try simp only [Act.put, List.setIfInBounds_toArray, List.set_cons_zero, List.set_cons_succ]
      refine wpAnyH_take (i := 12) (oi := ⟨some 78, _, _, _, _, _⟩) (v := ?_) rfl (by kernel_rfl) (by kernel_rfl) (by kernel_rfl) (fun _ _ _ h => h) (Or.inl ⟨by rfl, ?_⟩) (by assumption) ?_
      rotate_left
      · intro w hSw; (try dsimp only at hSw); go_simp <;> with_reducible rfl
      try simp only [Act.put, List.setIfInBounds_toArray, List.set_cons_zero, List.set_cons_succ]
      refine wpAnyH_take (i := 13) (oi := ⟨some 79, _, _, _, _, _⟩) (v := ?_) rfl (by kernel_rfl) (by kernel_rfl) (by kernel_rfl) (fun _ _ _ h => h) (Or.inl ⟨by rfl, ?_⟩) (by assumption) ?_
      rotate_left
      · intro w hSw; (try dsimp only at hSw); go_simp <;> with_reducible rfl
      try simp only [Act.put, List.setIfInBounds_toArray, List.set_cons_zero, List.set_cons_succ]
      refine wpAnyH_ready (rs := [14]) (by kernel_rfl) (by simp) ?_
      refine AllReadyH.cons (o := ⟨some 11, _, _, _, _, _⟩) rfl (fun K hK => ?_) AllReadyH.nil
      go_simp
      refine hK.out _ _ ?_ (fun hHeld => ?_)
      · (try dsimp only); (first | assumption | exact ⟨g0, g1, xc0⟩ | (refine sees3y ?_ g0 g1 xc0; (repeat (first | exact bnil _ | refine Below.drew ?_ | refine bnew ?_ _))))
      clear hK K
      try simp only [Act.put, List.setIfInBounds_toArray, List.set_cons_zero, List.set_cons_succ]
      refine wpAnyH_ready (rs := [15]) (by kernel_rfl) (by simp) ?_
      refine AllReadyH.cons (o := ⟨none, _, _, _, _, _⟩) rfl (fun K hK => ?_) AllReadyH.nil
      go_simp
      refine hK.out _ _ ?_ (fun hHeld => ?_)
      · (try dsimp only); (first | assumption | exact ⟨g0, g1, xc0⟩ | (refine sees3y ?_ g0 g1 xc0; (repeat (first | exact bnil _ | refine Below.drew ?_ | refine bnew ?_ _))))
      clear hK K
      try dsimp only [Act.put]
      refine wpAnyH_done (by kernel_rfl) ?_ _
      rotate_left
      have B8 := hid ((bnew (bnil w7) (.cells #[.int .i64 (d.b : Int), .int .i64 E1, .bool pb, .int .i64 0, .int .i64 0] 52)).drew)
      have XA := hid (show Blk ((w7.alloc (.cells #[.int .i64 (d.b : Int), .int .i64 E1, .bool pb, .int .i64 0, .int .i64 0] 52)).drew) ba 52 #[.int .i64 (d.b : Int), .int .i64 E1, .bool pb, .int .i64 0, .int .i64 0] from XA0.out)
      have hba := HBA.out
      rw [hba]
      generalize World.drew (World.alloc w7 (.cells #[.int .i64 (d.b : Int), .int .i64 E1, .bool pb, .int .i64 0, .int .i64 0] 52)) = w8 at *
      have HUTL := hid (fun b hb => (own_ge UT7.out b hb).2)
      have HO8 := hid (HO7.out.step B8.out)
      have HNB := hid (show ∀ b, (Value.slice A1 k c1).ownBlock = some b → b ≠ ba from fun b hb => by have := (own_ge HO7.out.own b hb).2; omega)
      have HBA4 := hid (show w4.heap.size ≤ ba by rw [← hba]; exact HO7.out.below.size)
      clear hba XA0
      have f4x := cell_below B8.out g4
      have RA8 := hid (own_below RA7.out B8.out)
      have UT8 := hid (own_below UT7.out B8.out)
      have xd1 := cell_below B8.out xc1
      clear g0 g1 g4 xc0 xc1 RA7 UT7 ltc
      obtain ⟨E2, HE2, o, HEO⟩ : ∃ E2 : Int, Hid (eI d.e = E2) ∧ ∃ o : Int, Hid ((E2 = -1 ∧ d.told.getD 0 0 = 0 ∧ o = 0) ∨ (E2 ≠ -1 ∧ d.told = [o])) := by
        cases he : d.e with
        | none => exact ⟨-1, hid rfl, 0, hid (.inl ⟨rfl, by rw [HR.out.open_ k d HDk.out he]; rfl, rfl⟩)⟩
        | some e =>
          obtain ⟨o, ho⟩ := HR.out.told k d e HDk.out he
          exact ⟨(e : Int), hid rfl, o, hid (.inr ⟨by omega, ho⟩)⟩
      obtain rfl : E1 = E2 := HE1.out.symm.trans HE2.out
      clear HE1
      have f0 : w8.cell? ⟨ba, 0, none⟩ = some (.int .i64 (d.b : Int)) := XA.out.cell 0
      have f1 : w8.cell? ⟨ba, 1, none⟩ = some (.int .i64 E1) := XA.out.cell 1
      have f3 : w8.cell? ⟨ba, 3, none⟩ = some (.int .i64 0) := XA.out.cell 3
      have f4 : w8.cell? ⟨ba, 4, none⟩ = some (.int .i64 0) := XA.out.cell 4
      have z3 := XA.out.frozen 3
      have z4 := XA.out.frozen 4
      have hdo : d.told.getD 0 0 = o ∧ (E1 = -1 ∨ (E1 ≠ -1 ∧ d.told = [o])) := by
        rcases HEO.out with ⟨h1, h2, h3⟩ | ⟨h1, h2⟩
        · exact ⟨by rw [h2, h3], .inl h1⟩
        · exact ⟨by rw [h2]; rfl, .inr ⟨h1, h2⟩⟩
      obtain ⟨htd0, hdo⟩ := hdo
      have HTD := hid htd0
      have HDO := hid hdo
      have HO0 := hid (show E1 = -1 → o = 0 from fun h => by rcases HEO.out with ⟨_, _, h3⟩ | ⟨h1, _⟩; exact h3; exact absurd h h1)
      clear htd0 hdo HEO
      rcases HDO.out with hE | ⟨hE, htd⟩
      · have ho0 := HO0.out hE
        subst ho0
        subst hE
        rcases hxok with rfl | ⟨a, rfl, ha1, ha5⟩
        · obtain rfl : false = pb := HPB.out
          clear hpb
          have f2 : w8.cell? ⟨ba, 2, none⟩ = some (.bool false) := XA.out.cell 2
          have q0 := f0; have q1 := f1; have q2 := f2; have q3 := f3; have q4 := f4
          go_upto_region 17 with fail
          obtain ⟨w9, hw9⟩ : ∃ w9, w8 = w9 := ⟨_, rfl⟩
          rw [hw9]
          have XA9 := hid (show Blk w9 ba 52 #[.int .i64 (d.b : Int), .int .i64 (-1), .bool false, .int .i64 0, .int .i64 0] by rw [← hw9]; exact XA.out)
          have HO9 := hid (show Ow w4 w9 52 5 gA (.slice A1 k c1) (((rs.map (·.1)).take k).map (actOf (countM3 cs))) by rw [← hw9]; exact HO8.out)
          clear hw9 q0 q1 q2 q3 q4
          clear f0 f1 f2 f3 f4
          have q0 : w9.cell? ⟨ba, 0, none⟩ = some (.int .i64 (d.b : Int)) := XA9.out.cell 0
          have q1 : w9.cell? ⟨ba, 1, none⟩ = some (.int .i64 (-1)) := XA9.out.cell 1
          have q2 : w9.cell? ⟨ba, 2, none⟩ = some (.bool false) := XA9.out.cell 2
          have q3 : w9.cell? ⟨ba, 3, none⟩ = some (.int .i64 0) := XA9.out.cell 3
          have q4 : w9.cell? ⟨ba, 4, none⟩ = some (.int .i64 0) := XA9.out.cell 4
          have HACT := hid (show gA (actOf (countM3 cs) d) = [.int .i64 (d.b : Int), .int .i64 (-1), .bool false, .int .i64 0, .int .i64 0] by rw [← HE2.out]; unfold actOf; simp only [HARG.out, HTD.out]; simp)
          obtain ⟨y, hy⟩ : ∃ y, ((rs.map (·.1)).take k).map (actOf (countM3 cs)) ++ [actOf (countM3 cs) d] = y := ⟨_, rfl⟩
          have HY := hid hy
          have HYE := hid (show y = ((rs.map (·.1)).take (k + 1)).map (actOf (countM3 cs)) by rw [← hy, take_next HDk.out, List.map_append]; rfl)
          have HYN := hid (show y.length = k + 1 by rw [HYE.out, List.length_map, List.length_take, HLD.out]; omega)
          have HFR := hid (show Sl (w9.alloc (.cells #[.int .i64 (d.b : Int), .int .i64 (-1), .bool false, .int .i64 0, .int .i64 0] 52)) 5 (some ⟨w9.heap.size, 0, none⟩) 1 ([actOf (countM3 cs) d].flatMap gA) by
            rw [List.flatMap_cons, List.flatMap_nil, List.append_nil, HACT.out]
            exact Sl.fresh w9 #[_, _, _, _, _] 52 5 1 rfl)
          clear hy
          go_wp2_with (at_builtin; refine wpList_appY elmA gA_one rfl (.tmp 105) (.tmp 107) rfl (.slice A1 k c1) _ rfl (HO9.out.alloc _) [actOf (countM3 cs) d] y HY rfl HFR.out rfl (by rw [HYN.out]; simp only [maxLen]; omega) (by rw [HYN.out]; omega) ?_; intro A4 c4 w10 hc4 hc5 HN1 _ _)
          go_roundw
          case rel => exact ⟨k + 1, A4, c4, by omega, by go_num, by rw [HYN.out], hid (by have h1 := HN1.out; rw [HYN.out] at h1; rw [← HYE.out]; exact h1)⟩
          case measure => simp [intOf]; omega
        · obtain rfl : true = pb := HPB.out
          clear hpb
          have ha0 : a ≠ 0 := by omega
          obtain ⟨bg, rfl, _, ra0⟩ := told_one (told := [a]) RA8.out rfl
          have xd2 : w8.cell? ⟨bc, 1, none⟩ = some (.slice (some ⟨bg, 0, none⟩) 1 ca) := xd1
          clear xd1
          have f2 : w8.cell? ⟨ba, 2, none⟩ = some (.bool true) := XA.out.cell 2
          have q0 := f0; have q1 := f1; have q2 := f2; have q3 := f3; have q4 := f4
          go_upto_region 17 with fail
          obtain ⟨w9, hw9⟩ : ∃ w9, w8.setCell ⟨ba, 4, none⟩ (.int .i64 a) = w9 := ⟨_, rfl⟩
          rw [hw9]
          have XA9 := hid (show Blk w9 ba 52 #[.int .i64 (d.b : Int), .int .i64 (-1), .bool true, .int .i64 0, .int .i64 a] by rw [← hw9]; exact XA.out.set_ 4 (.int .i64 a))
          have HO9 := hid (show Ow w4 w9 52 5 gA (.slice A1 k c1) (((rs.map (·.1)).take k).map (actOf (countM3 cs))) by rw [← hw9]; exact HO8.out.setA HNB.out HBA4.out 4 (.int .i64 a))
          clear hw9 q0 q1 q2 q3 q4
          clear f0 f1 f2 f3 f4
          have q0 : w9.cell? ⟨ba, 0, none⟩ = some (.int .i64 (d.b : Int)) := XA9.out.cell 0
          have q1 : w9.cell? ⟨ba, 1, none⟩ = some (.int .i64 (-1)) := XA9.out.cell 1
          have q2 : w9.cell? ⟨ba, 2, none⟩ = some (.bool true) := XA9.out.cell 2
          have q3 : w9.cell? ⟨ba, 3, none⟩ = some (.int .i64 0) := XA9.out.cell 3
          have q4 : w9.cell? ⟨ba, 4, none⟩ = some (.int .i64 a) := XA9.out.cell 4
          have HACT := hid (show gA (actOf (countM3 cs) d) = [.int .i64 (d.b : Int), .int .i64 (-1), .bool true, .int .i64 0, .int .i64 a] by rw [← HE2.out]; unfold actOf; simp only [HARG.out, HTD.out]; simp [ha0])
          obtain ⟨y, hy⟩ : ∃ y, ((rs.map (·.1)).take k).map (actOf (countM3 cs)) ++ [actOf (countM3 cs) d] = y := ⟨_, rfl⟩
          have HY := hid hy
          have HYE := hid (show y = ((rs.map (·.1)).take (k + 1)).map (actOf (countM3 cs)) by rw [← hy, take_next HDk.out, List.map_append]; rfl)
          have HYN := hid (show y.length = k + 1 by rw [HYE.out, List.length_map, List.length_take, HLD.out]; omega)
          have HFR := hid (show Sl (w9.alloc (.cells #[.int .i64 (d.b : Int), .int .i64 (-1), .bool true, .int .i64 0, .int .i64 a] 52)) 5 (some ⟨w9.heap.size, 0, none⟩) 1 ([actOf (countM3 cs) d].flatMap gA) by
            rw [List.flatMap_cons, List.flatMap_nil, List.append_nil, HACT.out]
            exact Sl.fresh w9 #[_, _, _, _, _] 52 5 1 rfl)
          clear hy
          go_wp2_with (at_builtin; refine wpList_appY elmA gA_one rfl (.tmp 105) (.tmp 107) rfl (.slice A1 k c1) _ rfl (HO9.out.alloc _) [actOf (countM3 cs) d] y HY rfl HFR.out rfl (by rw [HYN.out]; simp only [maxLen]; omega) (by rw [HYN.out]; omega) ?_; intro A4 c4 w10 hc4 hc5 HN1 _ _)
          go_roundw
          case rel => exact ⟨k + 1, A4, c4, by omega, by go_num, by rw [HYN.out], hid (by have h1 := HN1.out; rw [HYN.out] at h1; rw [← HYE.out]; exact h1)⟩
          case measure => simp [intOf]; omega
      · have en3 : ¬ (E1 = -1) := hE
        obtain ⟨bt, rfl, _, t0⟩ := told_one UT8.out htd
        have hbt1 : bt ≠ ba := by have h1 := HUTL.out bt rfl; have h2 := HBA.out; omega
        have hbt2 : ba ≠ bt := fun e => hbt1 e.symm
        have hb91 : b9 ≠ ba := by have h1 := B7.out.size; have h2 := HBA.out; omega
        have hb92 : ba ≠ b9 := fun e => hb91 e.symm
        rw [htd] at f4x
        have f4y : w8.cell? ⟨b9, k * 5 + 4, none⟩ = some (.slice (some ⟨bt, 0, none⟩) 1 ct) := f4x
        clear f4x htd hE
        rcases hxok with rfl | ⟨a, rfl, ha1, ha5⟩
        · obtain rfl : false = pb := HPB.out
          clear hpb
          have f2 : w8.cell? ⟨ba, 2, none⟩ = some (.bool false) := XA.out.cell 2
          have q0 := f0; have q1 := f1; have q2 := f2; have q3 := f3; have q4 := f4
          go_upto_region 17 with fail
          obtain ⟨w9, hw9⟩ : ∃ w9, w8.setCell ⟨ba, 3, none⟩ (.int .i64 o) = w9 := ⟨_, rfl⟩
          rw [hw9]
          have XA9 := hid (show Blk w9 ba 52 #[.int .i64 (d.b : Int), .int .i64 E1, .bool false, .int .i64 o, .int .i64 0] by rw [← hw9]; exact XA.out.set_ 3 (.int .i64 o))
          have HO9 := hid (show Ow w4 w9 52 5 gA (.slice A1 k c1) (((rs.map (·.1)).take k).map (actOf (countM3 cs))) by rw [← hw9]; exact HO8.out.setA HNB.out HBA4.out 3 (.int .i64 o))
          clear hw9 q0 q1 q2 q3 q4
          clear f0 f1 f2 f3 f4
          have q0 : w9.cell? ⟨ba, 0, none⟩ = some (.int .i64 (d.b : Int)) := XA9.out.cell 0
          have q1 : w9.cell? ⟨ba, 1, none⟩ = some (.int .i64 E1) := XA9.out.cell 1
          have q2 : w9.cell? ⟨ba, 2, none⟩ = some (.bool false) := XA9.out.cell 2
          have q3 : w9.cell? ⟨ba, 3, none⟩ = some (.int .i64 o) := XA9.out.cell 3
          have q4 : w9.cell? ⟨ba, 4, none⟩ = some (.int .i64 0) := XA9.out.cell 4
          have HACT := hid (show gA (actOf (countM3 cs) d) = [.int .i64 (d.b : Int), .int .i64 E1, .bool false, .int .i64 o, .int .i64 0] by rw [← HE2.out]; unfold actOf; simp only [HARG.out, HTD.out]; simp)
          obtain ⟨y, hy⟩ : ∃ y, ((rs.map (·.1)).take k).map (actOf (countM3 cs)) ++ [actOf (countM3 cs) d] = y := ⟨_, rfl⟩
          have HY := hid hy
          have HYE := hid (show y = ((rs.map (·.1)).take (k + 1)).map (actOf (countM3 cs)) by rw [← hy, take_next HDk.out, List.map_append]; rfl)
          have HYN := hid (show y.length = k + 1 by rw [HYE.out, List.length_map, List.length_take, HLD.out]; omega)
          have HFR := hid (show Sl (w9.alloc (.cells #[.int .i64 (d.b : Int), .int .i64 E1, .bool false, .int .i64 o, .int .i64 0] 52)) 5 (some ⟨w9.heap.size, 0, none⟩) 1 ([actOf (countM3 cs) d].flatMap gA) by
            rw [List.flatMap_cons, List.flatMap_nil, List.append_nil, HACT.out]
            exact Sl.fresh w9 #[_, _, _, _, _] 52 5 1 rfl)
          clear hy
          go_wp2_with (at_builtin; refine wpList_appY elmA gA_one rfl (.tmp 105) (.tmp 107) rfl (.slice A1 k c1) _ rfl (HO9.out.alloc _) [actOf (countM3 cs) d] y HY rfl HFR.out rfl (by rw [HYN.out]; simp only [maxLen]; omega) (by rw [HYN.out]; omega) ?_; intro A4 c4 w10 hc4 hc5 HN1 _ _)
          go_roundw
          case rel => exact ⟨k + 1, A4, c4, by omega, by go_num, by rw [HYN.out], hid (by have h1 := HN1.out; rw [HYN.out] at h1; rw [← HYE.out]; exact h1)⟩
          case measure => simp [intOf]; omega
        · obtain rfl : true = pb := HPB.out
          clear hpb
          have ha0 : a ≠ 0 := by omega
          obtain ⟨bg, rfl, _, ra0⟩ := told_one (told := [a]) RA8.out rfl
          have xd2 : w8.cell? ⟨bc, 1, none⟩ = some (.slice (some ⟨bg, 0, none⟩) 1 ca) := xd1
          clear xd1
          have f2 : w8.cell? ⟨ba, 2, none⟩ = some (.bool true) := XA.out.cell 2
          have q0 := f0; have q1 := f1; have q2 := f2; have q3 := f3; have q4 := f4
          go_upto_region 17 with fail
          obtain ⟨w9, hw9⟩ : ∃ w9, (w8.setCell ⟨ba, 4, none⟩ (.int .i64 a)).setCell ⟨ba, 3, none⟩ (.int .i64 o) = w9 := ⟨_, rfl⟩
          rw [hw9]
          have XA9 := hid (show Blk w9 ba 52 #[.int .i64 (d.b : Int), .int .i64 E1, .bool true, .int .i64 o, .int .i64 a] by rw [← hw9]; exact (XA.out.set_ 4 (.int .i64 a)).set_ 3 (.int .i64 o))
          have HO9 := hid (show Ow w4 w9 52 5 gA (.slice A1 k c1) (((rs.map (·.1)).take k).map (actOf (countM3 cs))) by rw [← hw9]; exact (HO8.out.setA HNB.out HBA4.out 4 (.int .i64 a)).setA HNB.out HBA4.out 3 (.int .i64 o))
          clear hw9 q0 q1 q2 q3 q4
          clear f0 f1 f2 f3 f4
          have q0 : w9.cell? ⟨ba, 0, none⟩ = some (.int .i64 (d.b : Int)) := XA9.out.cell 0
          have q1 : w9.cell? ⟨ba, 1, none⟩ = some (.int .i64 E1) := XA9.out.cell 1
          have q2 : w9.cell? ⟨ba, 2, none⟩ = some (.bool true) := XA9.out.cell 2
          have q3 : w9.cell? ⟨ba, 3, none⟩ = some (.int .i64 o) := XA9.out.cell 3
          have q4 : w9.cell? ⟨ba, 4, none⟩ = some (.int .i64 a) := XA9.out.cell 4
          have HACT := hid (show gA (actOf (countM3 cs) d) = [.int .i64 (d.b : Int), .int .i64 E1, .bool true, .int .i64 o, .int .i64 a] by rw [← HE2.out]; unfold actOf; simp only [HARG.out, HTD.out]; simp [ha0])
          obtain ⟨y, hy⟩ : ∃ y, ((rs.map (·.1)).take k).map (actOf (countM3 cs)) ++ [actOf (countM3 cs) d] = y := ⟨_, rfl⟩
          have HY := hid hy
          have HYE := hid (show y = ((rs.map (·.1)).take (k + 1)).map (actOf (countM3 cs)) by rw [← hy, take_next HDk.out, List.map_append]; rfl)
          have HYN := hid (show y.length = k + 1 by rw [HYE.out, List.length_map, List.length_take, HLD.out]; omega)
          have HFR := hid (show Sl (w9.alloc (.cells #[.int .i64 (d.b : Int), .int .i64 E1, .bool true, .int .i64 o, .int .i64 a] 52)) 5 (some ⟨w9.heap.size, 0, none⟩) 1 ([actOf (countM3 cs) d].flatMap gA) by
            rw [List.flatMap_cons, List.flatMap_nil, List.append_nil, HACT.out]
            exact Sl.fresh w9 #[_, _, _, _, _] 52 5 1 rfl)
          clear hy
          go_wp2_with (at_builtin; refine wpList_appY elmA gA_one rfl (.tmp 105) (.tmp 107) rfl (.slice A1 k c1) _ rfl (HO9.out.alloc _) [actOf (countM3 cs) d] y HY rfl HFR.out rfl (by rw [HYN.out]; simp only [maxLen]; omega) (by rw [HYN.out]; omega) ?_; intro A4 c4 w10 hc4 hc5 HN1 _ _)
          go_roundw
          case rel => exact ⟨k + 1, A4, c4, by omega, by go_num, by rw [HYN.out], hid (by have h1 := HN1.out; rw [HYN.out] at h1; rw [← HYE.out]; exact h1)⟩
          case measure => simp [intOf]; omega
    · obtain rfl : LD = k := by omega
      have j1 : ¬ (LD : Int) < (LD : Int) := by omega
      have HOF := hid (show Ow w4 wr 52 5 gA (.slice A1 LD c1) ((rs.map (·.1)).map (actOf (countM3 cs))) by have h := HO.out; rw [List.take_of_length_le (by rw [HLD.out]; exact Nat.le_refl _)] at h; exact h)
      obtain ⟨A1', c1', e1, hc1, hc1'⟩ := HOF.out.form
      injection e1 with e1 e2 e3
      subst e1 e3
      clear e2
      have hcl : LD ≤ c1 := by have := hc1; rw [List.length_map, HLD.out] at this; exact this
      have HACTS := hid (show ActsAt wr A1 LD ((rs.map (·.1)).map (actOf (countM3 cs))) from ⟨by rw [List.length_map, HLD.out], by have h := HOF.out.sl; first | exact h | (rw [List.length_map, HLD.out] at h; exact h), fun a ha => by
        obtain ⟨d, hd, rfl⟩ := List.mem_map.1 ha
        obtain ⟨k', hk'⟩ := List.getElem?_of_mem hd
        obtain ⟨x, hx, hxok⟩ := HR.out.call k' d hk'
        have harg : argOf (countM3 cs) d = x.args.getD 0 0 := by unfold argOf; rw [hx]
        unfold actOf
        simp only
        rcases hxok with rfl | ⟨a, rfl, h1, h2⟩
        · have h0 : argOf (countM3 cs) d = 0 := harg
          rw [h0]; simp
        · have h0 : argOf (countM3 cs) d = a := harg
          rw [h0]
          refine ⟨by omega, h2, fun h => ?_⟩
          simp at h; exact h⟩)
      have HLIN := hid (show Lin LD 0 ((rs.map (·.1)).map (actOf (countM3 cs))) by have h := HR.out.lin; rw [HLD.out] at h; exact h)
      have HBW := hid (bgo B4.out HO.out.below)
      clear hc1
      have hC0 := hid ((blkN wr 3 #[.int .i64 0] wr.heap.size rfl).cell 0)
      go_wp2_with fail
      refine (linear_count LD 0 ((rs.map (·.1)).map (actOf (countM3 cs))) ⟨wr.heap.size, 0, none⟩ 1 A1 c1 _ hcl hc1' (by omega) (by omega) (by omega) hC0.out (HACTS.out.below (bnew (bnil wr) _))).mono ?_
      rintro e5 w5 ⟨b5, rfl, hb5, bb5⟩
      have hbt := hb5 HLIN.out
      subst hbt
      go_wp2_with fail
      go_ret
      exact ⟨rfl, bgo HBW.out (bgo (bnew (bnil wr) _) bb5)⟩
end Go.Proofs.YtnoinojhocicjaaDoor
