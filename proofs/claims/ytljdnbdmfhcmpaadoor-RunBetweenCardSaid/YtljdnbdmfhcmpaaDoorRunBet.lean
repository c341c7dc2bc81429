/-
  RunBetween: its walk.
-/
import Derived.Test.YtljdnbdmfhcmpaaDoorRunPre
namespace Go.Proofs.YtljdnbdmfhcmpaaDoor
open Go.RowKit
set_option linter.unusedVariables false
theorem sees3 {W w' : World} {p q r : Addr} {u v x : Value} (h : Below W.heap.size W w') (hp : W.cell? p = some u) (hq : W.cell? q = some v) (hr : W.cell? r = some x) : Below W.heap.size W w' ∧ w'.cell? p = some u ∧ w'.cell? q = some v ∧ w'.cell? r = some x := ⟨h, cell_below h hp, cell_below h hq, cell_below h hr⟩
theorem inOf_upd (l : List Ev) (e : Ev) : (fun j => Value.bool (inOf (l ++ [e]) j)) = upd (fun j => Value.bool (inOf l j)) e.thread (.bool (!e.fin)) := by
  funext j
  unfold upd
  rw [inOf_snoc]
  by_cases h : j = e.thread
  · subst h; simp
  · rw [if_neg h, if_neg (fun x => h x.symm)]
theorem nextOf_upd (l : List Ev) (e : Ev) (h : e.fin = true) : (fun j => Value.int .i64 (nextOf (l ++ [e]) j : Int)) = upd (fun j => Value.int .i64 (nextOf l j : Int)) e.thread (.int .i64 ((nextOf l e.thread : Int) + 1)) := by
  funext j
  unfold upd
  rw [nextOf_snoc]
  by_cases h' : j = e.thread
  · subst h'; simp [h]
  · rw [if_neg h', if_neg (fun x => h' x.1.symm)]
theorem nextOf_same (l : List Ev) (e : Ev) (h : e.fin = false) (j : Nat) : nextOf (l ++ [e]) j = nextOf l j := by
  rw [nextOf_snoc, if_neg (by simp [h])]
theorem in_set {w : World} {bi : Nat} {pre : List Ev} {e : Ev} (h : Blk w bi 54 #[.bool (inOf pre 0), .bool (inOf pre 1), .bool (inOf pre 2)]) (ho : e.thread < 3) :
    Blk (w.setCell ⟨bi, e.thread, none⟩ (.bool (!e.fin))) bi 54 #[.bool (inOf (pre ++ [e]) 0), .bool (inOf (pre ++ [e]) 1), .bool (inOf (pre ++ [e]) 2)] := by
  have h1 := h.set_ e.thread (.bool (!e.fin))
  rw [arr3 (fun j => Value.bool (inOf pre j)) _ ho, ← inOf_upd] at h1
  exact h1
theorem next_set {w : World} {bn : Nat} {pre : List Ev} {e : Ev} (h : Blk w bn 55 #[.int .i64 (nextOf pre 0 : Int), .int .i64 (nextOf pre 1 : Int), .int .i64 (nextOf pre 2 : Int)]) (ho : e.thread < 3) (hf : e.fin = true) (hc : e.call = nextOf pre e.thread) :
    ∀ w', Blk w' bn 55 #[.int .i64 (nextOf pre 0 : Int), .int .i64 (nextOf pre 1 : Int), .int .i64 (nextOf pre 2 : Int)] → Blk (w'.setCell ⟨bn, e.thread, none⟩ (.int .i64 ((e.call : Int) + 1))) bn 55 #[.int .i64 (nextOf (pre ++ [e]) 0 : Int), .int .i64 (nextOf (pre ++ [e]) 1 : Int), .int .i64 (nextOf (pre ++ [e]) 2 : Int)] := by
  intro w' h'
  have h1 := h'.set_ e.thread (.int .i64 ((e.call : Int) + 1))
  rw [arr3 (fun j => Value.int .i64 (nextOf pre j : Int)) _ ho, hc, ← nextOf_upd pre e hf] at h1
  rw [hc]
  exact h1
set_option maxHeartbeats 4000000 in
set_option maxRecDepth 100000 in
theorem law_runBetween (A : Option Addr) (n c : Nat) (ls : List Op5) (A2 : Option Addr) (n2 c2 : Nat) (ms : List Op5) (D : Option Addr) (r s : Nat) (cs : List Int) (S : Option Addr) (p q : Nat) (bs : List UInt8) (w : World)
    (hn : n ≤ c) (hc : c ≤ maxLen) (_ : c * 40 ≤ 140737488351232) (hA : Sl w 5 A n (ls.flatMap gO)) (hls : ∀ x ∈ ls, LineOk x)
    (hn2 : n2 ≤ c2) (hc2 : c2 ≤ maxLen) (_ : c2 * 40 ≤ 140737488351232) (hA2 : Sl w 5 A2 n2 (ms.flatMap gO)) (hms : ∀ x ∈ ms, LineOk x)
    (hr : r ≤ s) (hs : s ≤ maxLen) (_ : s * 8 ≤ 140737488351232) (hD : Sl w 1 D r (ints cs)) (hcs : ∀ x ∈ cs, -9223372036854775808 ≤ x ∧ x ≤ 9223372036854775807)
    (hp : p ≤ q) (hq : q ≤ maxLen) (_ : q * 1 ≤ 140737488351232) (hS : Sl w 1 S p (byts bs)) (hT : STab w) :
    Calls Tryd.prog 8 #[.slice A n c, .slice A2 n2 c2, .slice D r s, .slice S p q] w fun e w' => e = .returned (.bool true) ∧ Below w.heap.size w w' := by
  have HA := hid (Lines.mk hA hls); have HA2 := hid (Lines.mk hA2 hms); have HD := hid hD; have HCS := hid hcs; have HS := hid hS; have HT := hid hT
  clear hA hA2 hls hms hD hcs hS hT
  have hpl : p ≤ 9223372036854775807 := by unfold maxLen at hq; omega
  have HC := hid hc; have HC2 := hid hc2; have HQ := hid hq; have HSS := hid hs; clear hc hc2 hq hs
  go_enter Tryd.func8, Tryd.ntmps8
  go_wp2_with fail
  refine (machine_of A n c A2 n2 c2 D r s ls ms cs w hn HC.out hn2 HC2.out (Nat.le_trans hr HSS.out) HA.out HA2.out HD.out HCS.out).mono ?_
  rintro e w1 hp1
  obtain ⟨Wb, Cb, T, c1', c2', tv, av, rfl, hM, b1⟩ := hp1
  have HM := hid hM; have B1 := hid b1
  clear hM b1
  obtain ⟨X, hX⟩ : ∃ X, w1.heap.size = X := ⟨_, rfl⟩
  go_wp2_with fail
  have HX0 := hid (blkN w1 44 #[.slice (some ⟨Wb, 0, none⟩) 8 8, .slice (some ⟨Cb, 0, none⟩) 2 2, .slice (some ⟨T, 0, none⟩) 3 3] X hX)
  have BA := hid (bgo B1.out (bnew (bnil w1) (.cells #[.slice (some ⟨Wb, 0, none⟩) 8 8, .slice (some ⟨Cb, 0, none⟩) 2 2, .slice (some ⟨T, 0, none⟩) 3 3] 44)))
  have HMA := hid (HM.out.below (bnew (bnil w1) (.cells #[.slice (some ⟨Wb, 0, none⟩) 8 8, .slice (some ⟨Cb, 0, none⟩) 2 2, .slice (some ⟨T, 0, none⟩) 3 3] 44)))
  generalize World.alloc w1 _ = wA at *
  clear hX HM
  refine (schedule S p q 400 bs wA hpl (by decide) (HS.out.below BA.out)).mono ?_
  rintro e w2 ⟨v, rfl, ho⟩
  have hl4 : (sched bs 400).length ≤ 400 := by rw [sched_len]; omega
  have HLT := hid (sched_lt bs 400)
  generalize sched bs 400 = all at *
  obtain ⟨Al, cl, rfl, hcl, hcl2⟩ := ho.form
  have HO := hid ho; clear ho
  rw [show (nats all).length = all.length by simp] at *
  unfold maxLen at hcl2
  obtain ⟨N, hN⟩ : ∃ N, all.length = N := ⟨_, rfl⟩
  rw [hN] at HO hl4 hcl ⊢
  have HN := hid hN; clear hN
  have x0 : w2.cell? ⟨X, 0, none⟩ = some (.slice (some ⟨Wb, 0, none⟩) 8 8) := (HX0.out.below' HO.out.below).cell 0
  have x1 : w2.cell? ⟨X, 1, none⟩ = some (.slice (some ⟨Cb, 0, none⟩) 2 2) := (HX0.out.below' HO.out.below).cell 1
  have x2 : w2.cell? ⟨X, 2, none⟩ = some (.slice (some ⟨T, 0, none⟩) 3 3) := (HX0.out.below' HO.out.below).cell 2
  have HXB := hid (HX0.out.below' HO.out.below)
  go_wp2_with fail
  have HYS := hid (show ∀ y : List Int, [] ++ y = y from fun y => rfl)
  have HMB := hid (HMA.out.below HO.out.below)
  have HM2 := hid (ML.mach (HMA.out.below HO.out.below) (mthr_th cs))
  have HT2 := hid (HT.out.below (bgo BA.out HO.out.below))
  have HLN := hid (show ∀ j calls, (machT ls ms (mthr cs (min 12 cs.length))).threads[j]? = some calls → calls = mthr cs (min 12 cs.length) j ∧ j < 3 by
    intro j calls hj
    match j, hj with
    | 0, hj => injection hj with hj; exact ⟨hj.symm, by decide⟩
    | 1, hj => injection hj with hj; exact ⟨hj.symm, by decide⟩
    | 2, hj => injection hj with hj; exact ⟨hj.symm, by decide⟩
    | j + 3, hj => simp [machT] at hj)
  have HM3 := hid (show (machT ls ms (mthr cs (min 12 cs.length))).threads.length = 3 from rfl)
  have HM8 := hid (show (machT ls ms (mthr cs (min 12 cs.length))).words.length = 8 from rfl)
  generalize machT ls ms (mthr cs (min 12 cs.length)) = m at *
  have ltX := World.block_lt_of_cell? w2 _ x0
  obtain ⟨xs, hxs⟩ : ∃ xs, nats all = xs := ⟨_, rfl⟩
  have hyl : xs.length = N := by rw [← hxs]; simp [HN.out]
  have HXL := hid hyl
  have HSL := hid (show Sl w2 1 Al N (xs.flatMap gI) by rw [← hxs]; exact HO.out.sl)
  have HIS := hid (show ∀ (w' : World) (B c : Nat) (A' : Option Addr), w'.ownsRow B 3 1 (.slice A' xs.length c) xs.length (xs.flatMap gI) → Sl w' 1 A' xs.length (ints (all.map fun x : Nat => (x : Int))) from fun w' B c A' h => by have h2 := Sl.own h; rw [← hxs] at h2 ⊢; exact h2)
  clear hxs hyl
  go_region_held3 (fun w' => Below w2.heap.size w2 w' ∧ w'.cell? ⟨X, 0, none⟩ = some (.slice (some ⟨Wb, 0, none⟩) 8 8) ∧ w'.cell? ⟨X, 1, none⟩ = some (.slice (some ⟨Cb, 0, none⟩) 2 2) ∧ w'.cell? ⟨X, 2, none⟩ = some (.slice (some ⟨T, 0, none⟩) 3 3))
    ((refine sees3 ?_ x0 x1 x2; (repeat (first | assumption | exact (‹Below w2.heap.size w2 _ ∧ _ ∧ _›).1 | exact bnil _ | refine Below.drew ?_ | refine bnew ?_ _))))
    (first
      | (refine step_appB elmI gI_one rfl (.const (.slice none 0 0)) (.tmp 27) rfl (.slice none 0 0) [] rfl (own0 _ w2.heap.size _ 1) xs xs (hid (HYS.out xs)) rfl (Sl.drew HSL.out) HXL.out (by rw [HXL.out]; simp only [maxLen]; omega) (by rw [HXL.out]; omega) (Nat.le_refl _) ?_; intro E8 c8 w8 hc8 hc9 HN8 HG8; have HB8 : Below w2.heap.size w2 w8 := bgo (bnil w2).drew (grown_nil HG8.out))
      | (go_at_call 20; ((with_reducible refine (run_play _ _ _ _ 8 8 2 2 3 3 xs.length c8 m all w8 (by decide) (by decide) (by decide) (by rw [HXL.out]; omega) (HT2.out.below HB8) (HM2.out.1.below HB8) (HM2.out.2.below HB8) (HIS.out _ _ _ _ HN8.out) HLT.out).mono ?_); rintro e w9 hp9; obtain ⟨ev9, wv9, es9, rfl, HA9, HE9, HT9, HW9, b9⟩ := hp9; have HB9 := bgo HB8 b9)))
  all_goals
    obtain ⟨A9, c9, rfl, hn9, hn9'⟩ := own_form HA9
    obtain ⟨Aw, cw, rfl, _, _⟩ := own_form HW9
    have hw8 := play_words m all
    rw [HM8.out] at hw8
    rw [hw8]
    have HEW := hid (Evs.mk HA9 HT9)
    have HEF := hid HE9
    have hok := play_between m all
    have HOK := hid hok
    have hel := evs_len HE9
    rw [← HE9] at HOK
    have HX9 := hid (HXB.out.below' HB9)
    have HM9 := hid (HMB.out.below HB9)
    have BW := hid (bgo (bgo BA.out HO.out.below) HB9)
    have HO9 := hid (HO.out.sl.below HB9)
    have HT10 := hid (HT2.out.below HB9)
    clear HN8 HG8 HB8 HA9 HE9 HT9 HW9 b9 HB9 ltX hc8 hc9 HIS HSL HXL HYS x0 x1 x2 hw8 hok hel
    obtain ⟨L9, hL9⟩ : ∃ L9, es9.length = L9 := ⟨_, rfl⟩
    rw [hL9] at HEW hn9 ⊢
    have HL9 := hid hL9
    clear hL9
    unfold maxLen at hn9'
    go_wp2_with fail
    refine (run_sure _ HT10.out).mono ?_
    rintro e w10 ⟨rfl, b10⟩
    have B10 := hid b10; clear b10
    obtain ⟨bi, hbi⟩ : ∃ bi, w10.heap.size = bi := ⟨_, rfl⟩
    have R1 := hid ((blkN w10 54 #[.bool false, .bool false, .bool false] bi hbi).alloc (.cells #[.int .i64 0, .int .i64 0, .int .i64 0] 55))
    have R2 := hid (blkN (w10.alloc (.cells #[.bool false, .bool false, .bool false] 54)) 55 #[.int .i64 0, .int .i64 0, .int .i64 0] (bi + 1) (by simp [hbi]))
    have R3 := hid (bgo B10.out (bnew (bnew (bnil w10) (.cells #[.bool false, .bool false, .bool false] 54)) (.cells #[.int .i64 0, .int .i64 0, .int .i64 0] 55)))
    have hbw : w9.heap.size ≤ bi := by rw [← hbi]; exact B10.out.size
    go_wp2_with fail
    generalize World.alloc (World.alloc w10 _) _ = w11 at *
    clear hbi
    obtain ⟨bn, hbn⟩ : ∃ bn, bi + 1 = bn := ⟨_, rfl⟩
    rw [hbn] at R2 ⊢
    have hnb : bi < bn := by omega
    clear hbn
    go_loopw [16, 17] (fun la i wr => ∃ k : Nat, k ≤ L9 ∧ i = .int .i64 k ∧ la = .int .i64 (lastOf ((es9.map (·.1)).take k)) ∧
      Hid (Blk wr bi 54 #[(fun j => Value.bool (inOf ((es9.map (·.1)).take k) j)) 0, (fun j => Value.bool (inOf ((es9.map (·.1)).take k) j)) 1, (fun j => Value.bool (inOf ((es9.map (·.1)).take k) j)) 2]) ∧
      Hid (Blk wr bn 55 #[(fun j => Value.int .i64 (nextOf ((es9.map (·.1)).take k) j : Int)) 0, (fun j => Value.int .i64 (nextOf ((es9.map (·.1)).take k) j : Int)) 1, (fun j => Value.int .i64 (nextOf ((es9.map (·.1)).take k) j : Int)) 2]) ∧
      Hid (Below w9.heap.size w9 wr)) (fun _ i _ => L9 - (intOf i).toNat)
    case atStart => exact ⟨0, Nat.zero_le _, rfl, rfl, R1, R2, R3⟩
    case round =>
      obtain ⟨k, hk, rfl, rfl, RI, RN, BR⟩ := hrel
      by_cases hlt : k < L9
      · have j1 : (k : Int) < (L9 : Int) := by omega
        obtain ⟨y, hy1⟩ : ∃ y, es9[k]? = some y := ⟨_, List.getElem?_eq_getElem (by rw [HL9.out]; exact hlt)⟩
        obtain ⟨b9, rfl, ⟨u0, u1, u2, u3, u4, u5⟩, ub, us', un⟩ := (HEW.out.below BR.out).at_ hy1
        have hyk : (es9.map (·.1))[k]? = some y.1 := by rw [List.getElem?_map, hy1]; rfl
        have hok := HOK.out k y.1 hyk
        have HNX := hid (take_next hyk)
        clear hy1 hyk
        generalize (es9.map (·.1)).take k = pre at *
        generalize hpst : (es9.map (·.1)).take (k + 1) = pst at *
        have HPST := hid hpst
        clear hpst
        obtain ⟨⟨st, th, ca, fi, er, td⟩, ⟨Ay, ny, cy⟩⟩ := y
        simp only at u0 u1 u2 u3 u4 u5 us' un hok HNX
        obtain ⟨o1, o2, o3, o4, o5, o6, o7⟩ := hok
        simp only at o1 o2 o3 o4 o5 o6 o7
        rw [HM3.out] at o1
        have hst : st < N := by have := (List.getElem?_eq_some_iff.1 o3).1; rw [HN.out] at this; exact this
        obtain ⟨ad, z, rfl, hz, cz⟩ := (HO9.out.below BR.out).ati hst
        have hzt : z = (th : Int) := by
          have e1 : (nats all)[st]? = some (th : Int) := by unfold nats; rw [List.getElem?_map, o3]; rfl
          rw [e1] at hz; injection hz with hz; exact hz.symm
        subst hzt
        have cI : wr.cell? ⟨bi, th, none⟩ = some (.bool fi) := by rw [RI.out.cell th, arr3_at (fun j => Value.bool (inOf pre j)) th o1, o4]
        have cN : wr.cell? ⟨bn, th, none⟩ = some (.int .i64 (ca : Int)) := by rw [RN.out.cell th, arr3_at (fun j => Value.int .i64 (nextOf pre j : Int)) th o1, o5]
        have fI := RI.out.frozen th
        have fN := RN.out.frozen th
        have lI := RI.out.lt
        have lN := RN.out.lt
        have lZ := World.block_lt_of_cell? wr _ cz
        have HO4 := hid o4; have HO5 := hid o5; have HO6 := hid o6; have HO7 := hid o7; have HUS := hid us'
        clear o3 o4 o5 o6 o7 us' hz
        have q1 : decide ((2 : Int) < (th : Int)) = false := by simp; omega
        have q1n : decide (2 < th) = false := by simp; omega
        have q2 : decide ((st : Int) < lastOf pre) = false := by simp; omega
        have q3 : decide ((N : Int) ≤ (st : Int)) = false := by simp; omega
        have q3n : decide (N ≤ st) = false := by simp; omega
        have q4 : (st : Int) < (N : Int) := by omega
        have q5 : (th : Int) < 3 := by omega
        have q0 : decide ((th : Int) < 0) = false := by simp
        obtain ⟨LA, hLA⟩ : ∃ LA, lastOf pre = LA := ⟨_, rfl⟩
        rw [hLA] at q2 o2 ⊢
        clear hLA
        obtain ⟨bx, hbx⟩ : ∃ bx, wr.heap.size = bx := ⟨_, rfl⟩
        have XB0 := hid (blkN wr 52 #[.int .i64 (st : Int), .int .i64 (th : Int), .int .i64 (ca : Int), .bool fi, .int .i64 (er : Int), .slice Ay ny cy] bx hbx)
        have BN0 := hid (bnew (bnil wr) (.cells #[.int .i64 (st : Int), .int .i64 (th : Int), .int .i64 (ca : Int), .bool fi, .int .i64 (er : Int), .slice Ay ny cy] 52))
        have HBX := hid hbx
        clear hbx
        go_wp2_with fail
        go_quiet (fail)
        have hbx := HBX.out
        rw [hbx] at lI lN lZ ub ⊢
        generalize World.alloc wr _ = wx at *
        have BN := hid (below_drewN BN0.out nq)
        have XB := hid (show Blk (wx.drewN nq) bx 52 #[.int .i64 (st : Int), .int .i64 (th : Int), .int .i64 (ca : Int), .bool fi, .int .i64 (er : Int), .slice Ay ny cy] from XB0.out)
        clear XB0 BN0
        generalize World.drewN wx nq = wy at *
        have RI2 := hid (RI.out.below' BN.out)
        have RN2 := hid (RN.out.below' BN.out)
        have xi : bx ≠ bi := by omega
        have xn : bx ≠ bn := by omega
        have ix : bi ≠ bx := by omega
        have nx : bn ≠ bx := by omega
        have iN : bi ≠ bn := by omega
        have Ni : bn ≠ bi := by omega
        clear hbx cz u0 u1 u2 u3 u4 u5 ub
        have cI : wy.cell? ⟨bi, th, none⟩ = some (.bool fi) := cell_below BN.out cI
        have cN : wy.cell? ⟨bn, th, none⟩ = some (.int .i64 (ca : Int)) := cell_below BN.out cN
        have fI := RI2.out.frozen th
        have fN := RN2.out.frozen th
        have y0 : wy.cell? ⟨bx, 0, none⟩ = some (.int .i64 (st : Int)) := XB.out.cell 0
        have y1 : wy.cell? ⟨bx, 1, none⟩ = some (.int .i64 (th : Int)) := XB.out.cell 1
        have y3 : wy.cell? ⟨bx, 3, none⟩ = some (.bool fi) := XB.out.cell 3
        have y4 : wy.cell? ⟨bx, 4, none⟩ = some (.int .i64 (er : Int)) := XB.out.cell 4
        have y5 : wy.cell? ⟨bx, 5, none⟩ = some (.slice Ay ny cy) := XB.out.cell 5
        have YX := hid ((HX9.out.below' BR.out).below' BN.out)
        have YM := hid ((HM9.out.below BR.out).below BN.out)
        have w2x : wy.cell? ⟨X, 2, none⟩ = some (.slice (some ⟨T, 0, none⟩) 3 3) := YX.out.cell 2
        have w2t : wy.cell? ⟨T, th, none⟩ = some (tv th) := by rw [YM.out.tb.cell th]; exact arr3_at tv th o1
        obtain ⟨Aj, cj, hAj, _, _⟩ := own_form (YM.out.rows th o1).2.1
        rw [hAj] at w2t
        have hXi : X ≠ bi := by have := HX9.out.lt; omega
        have hXn : X ≠ bn := by have := HX9.out.lt; omega
        have hTi : T ≠ bi := by have := HM9.out.tb.lt; omega
        have hTn : T ≠ bn := by have := HM9.out.tb.lt; omega
        clear hAj
        have hmost : nextOf pst th ≤ (mthr cs (min 12 cs.length) th).length := by
          obtain ⟨cl, hcl⟩ : ∃ cl, m.threads[th]? = some cl := ⟨_, List.getElem?_eq_getElem (by rw [HM3.out]; exact o1)⟩
          have := HO7.out cl hcl
          rw [← HNX.out, (HLN.out th cl hcl).1] at this
          exact this
        have hlen := mthr_len cs (min 12 cs.length) th
        cases fi with
        | true =>
          have hnx : nextOf pst th = ca + 1 := by rw [HNX.out, nextOf_snoc]; simp [HO5.out]
          rw [hnx] at hmost
          obtain ⟨lj, hlj⟩ : ∃ lj, (mthr cs (min 12 cs.length) th).length = lj := ⟨_, rfl⟩
          rw [hlj] at w2t hmost hlen
          have r1 : decide ((lj : Int) < (ca : Int) + 1) = false := by simp; omega
          have r2 : (ca : Int) ≤ 20 := by omega
          clear hlj hnx
          have S1 := hid (in_set (e := ⟨st, th, ca, true, er, td⟩) RI2.out o1)
          have S2 := hid (next_set (e := ⟨st, th, ca, true, er, td⟩) RN2.out o1 rfl HO5.out)
          rw [← HNX.out] at S1 S2
          go_wp2_with fail
          go_quiet (fail)
          go_wp2
          go_roundw
          case rel => exact ⟨k + 1, by omega, by go_num, by rw [HPST.out, HNX.out, lastOf_snoc], hid (by rw [HPST.out]; exact S1.out.far (p := ⟨bn, th, none⟩) iN _), hid (by rw [HPST.out]; exact S2.out _ (RN2.out.far (p := ⟨bi, th, none⟩) Ni _)), hid (below_drewN (((bgo BR.out BN.out).setCell (p := ⟨bi, th, none⟩) hbw _).setCell (p := ⟨bn, th, none⟩) (by show w9.heap.size ≤ bn; omega) _) _)⟩
          case measure => simp [intOf]; omega
        | false =>
          have hnx : ∀ j, nextOf pst j = nextOf pre j := by intro j; rw [HNX.out]; exact nextOf_same pre _ rfl j
          rw [hnx, ← HO5.out] at hmost
          obtain ⟨lj, hlj⟩ : ∃ lj, (mthr cs (min 12 cs.length) th).length = lj := ⟨_, rfl⟩
          rw [hlj] at w2t hmost hlen
          have r1 : decide ((lj : Int) < (ca : Int)) = false := by simp; omega
          have r1n : decide (lj < ca) = false := by simp; omega
          obtain ⟨rfl, rfl⟩ := HO6.out rfl
          obtain rfl : ny = 0 := by have := HUS.out.leni; simpa using this.symm
          have HNP := hid hnx
          clear hlj hnx
          have S1 := hid (in_set (e := ⟨st, th, ca, false, 0, []⟩) RI2.out o1)
          rw [← HNX.out] at S1
          go_wp2_with fail
          go_quiet (fail)
          go_wp2
          go_roundw
          case rel => exact ⟨k + 1, by omega, by go_num, by rw [HPST.out, HNX.out, lastOf_snoc], hid (by rw [HPST.out]; exact S1.out), hid (by rw [HPST.out, HNP.out, HNP.out, HNP.out]; exact RN2.out.far (p := ⟨bi, th, none⟩) Ni _), hid (below_drewN ((bgo BR.out BN.out).setCell (p := ⟨bi, th, none⟩) hbw _) _)⟩
          case measure => simp [intOf]; omega
      · obtain rfl : k = L9 := by omega
        have j1 : ¬ (k : Int) < (k : Int) := by omega
        go_wp2
        go_ret
        exact ⟨rfl, bgo BW.out BR.out⟩
end Go.Proofs.YtljdnbdmfhcmpaaDoor
