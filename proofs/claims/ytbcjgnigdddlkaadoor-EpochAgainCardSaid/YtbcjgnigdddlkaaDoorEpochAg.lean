/-
  EpochAgain: its walk. Written by gen_epag.py.
-/
import Derived.Test.YtbcjgnigdddlkaaDoorEpochM0
import Derived.Test.YtbcjgnigdddlkaaDoorEpAg0
import Derived.Test.YtbcjgnigdddlkaaDoorRan
import Derived.Test.YtbcjgnigdddlkaaDoorDsAt
import Derived.Deep.RegionHeld
namespace Go.Proofs.YtbcjgnigdddlkaaDoor
open Go.RowKit
set_option linter.unusedVariables false

/-- a machine while calls are appended -/
structure ABun (W0 w : World) (X Cb T nc nt : Nat) (Wv : Value) (ws : List Int) (cv : Nat → Value) (ks : Nat → List Op5) (tv : Nat → Value) (th : Nat → List VCall) (av : Nat → List SV) : Prop where
  below : Below W0.heap.size W0 w
  hx : Blk w X 34 #[Wv, .slice (some ⟨Cb, 0, none⟩) nc nc, .slice (some ⟨T, 0, none⟩) nt nt]
  own : w.ownsRow W0.heap.size 3 1 Wv ws.length (ws.flatMap gI)
  mn : MN W0.heap.size w nc nt Cb T cv ks tv th av
section
variable {W0 w w' : World} {X Cb T nc nt : Nat} {Wv : Value} {ws : List Int} {cv : Nat → Value} {ks : Nat → List Op5} {tv : Nat → Value} {th : Nat → List VCall} {av : Nat → List SV}
theorem ABun.step (h : ABun W0 w X Cb T nc nt Wv ws cv ks tv th av) (hb : Below w.heap.size w w') : ABun W0 w' X Cb T nc nt Wv ws cv ks tv th av :=
  ⟨bgo h.below hb, h.hx.below' hb, own_below h.own hb, h.mn.below hb⟩
theorem ABun.row (h : ABun W0 w X Cb T nc nt Wv ws cv ks tv th av) {j : Nat} (hj : j < nt) : ∃ (Aj : Option Addr) (cj : Nat), tv j = .slice Aj (th j).length cj ∧ ARow W0 w X T j nt (th j).length Aj cj ((th j).zip (av j)) := by
  have hrow := h.mn.rows j hj
  obtain ⟨Aj, cj, hAj, hcj1, hcj2⟩ := own_form hrow.2.1
  have hlen : ((th j).zip (av j)).length = (th j).length := by rw [List.length_zip, hrow.1, Nat.min_self]
  refine ⟨Aj, cj, hAj, h.below.size, h.hx.cell 2, ?_, h.mn.tb.frozen j, hlen, hcj1, hcj2, fun w' hb => ?_, fun wA w6 hb hG => ?_⟩
  · rw [h.mn.tb.cell j, arrN_at tv hj, hAj]
  · have h1 := own_below hrow.2.1 hb
    rw [hAj] at h1
    rw [hlen]
    exact h1
  · rw [← hAj] at hG
    obtain ⟨g1, g2⟩ := h.mn.grown hj hb hG
    have gX := g2 (by decide) h.hx
    exact ⟨⟨gX.cell 2, g1.frozen j⟩, by rw [g1.cell j, arrN_at tv hj, hAj], fun v => ⟨(gX.far (p := ⟨T, j, none⟩) (gX.ne_ g1 (by decide)) v).cell 2, (g1.set_ j v).frozen j⟩⟩
/-- behind an append -/
theorem ABun.app (h : ABun W0 w X Cb T nc nt Wv ws cv ks tv th av) {j : Nat} (hj : j < nt) {wA w6 : World} {v' : Value} (cs : List VCall) (as_ : List SV) {y : List (VCall × SV)}
    (hb : Below w.heap.size w wA) (hl : as_.length = cs.length) (ha : ∀ (k : Nat) (c : VCall) (a : SV), cs[k]? = some c → as_[k]? = some a → wA.ownsRow W0.heap.size 3 1 a.v c.args.length (c.args.flatMap gI)) (hy : (th j).zip (av j) ++ cs.zip as_ = y)
    (hG : wA.grownBy w6 (tv j).ownBlock) (hv : v'.ownBlock = (tv j).ownBlock ∨ v'.ownBlock = some wA.heap.size) (hr : w6.ownsRow W0.heap.size 49 2 v' y.length (y.flatMap gS)) :
    ABun W0 (w6.setCell ⟨T, j, none⟩ v') X Cb T nc nt Wv ws cv ks (upd tv j v') (upd th j (th j ++ cs)) (upd av j (av j ++ as_)) := by
  obtain ⟨g1, g2⟩ := h.mn.grown hj hb hG
  have far : ∀ {g : Nat} {cs : Array Value}, Blk w g 34 cs → Blk (w6.setCell ⟨T, j, none⟩ v') g 34 cs := fun hx => (g2 (by decide) hx).far (p := ⟨T, j, none⟩) ((g2 (by decide) hx).ne_ g1 (by decide)) v'
  exact ⟨(h.mn.chg hj hb hG h.below rfl v').2, far h.hx, h.mn.other hj hb hG h.own (by decide) (by decide) v', h.mn.snoc hj cs as_ hb hl ha hy hG hv hr⟩
end
theorem eath_app (k i : Nat) : upd (eath k i) 0 (eath k i 0 ++ [⟨2, [(k : Int)]⟩, ⟨3, []⟩, ⟨3, []⟩]) = eath k (i + 1) := by
  funext t
  unfold upd eath
  by_cases h : t = 0
  · rw [if_pos h, if_pos rfl, if_pos h]; rfl
  · rw [if_neg h, if_neg h, if_neg h]
theorem eath_zero (k : Nat) : eath k 0 = fun _ => [] := by
  funext t; unfold eath; split <;> rfl
theorem eath_mem {k j : Nat} {x : VCall} (hx : x ∈ eath k 6 j) : x.code < 4 ∧ x.args.length ≤ 8 := by
  unfold eath at hx
  split at hx
  · simp only [eacalls, List.nil_append, List.cons_append, List.mem_cons, List.not_mem_nil, or_false] at hx
    repeat' (rcases hx with rfl | hx)
    all_goals exact ⟨Nat.le_of_ble_eq_true rfl, Nat.le_of_ble_eq_true rfl⟩
  · cases hx
theorem eag_threads (k : Nat) : (eath k 6 0).length ≤ 1000 := by unfold eath; rw [if_pos rfl, eacalls_len]; decide
theorem eagM_at {B : Nat} {w : World} {Cb T N k : Nat} {cv tv : Nat → Value} {av : Nat → List SV} (h : MN B w 4 4 Cb T cv (fun i => [epinCode, eunpinCode, eretireCode, efreeCode N].getD i []) tv (eath k 6) av) (h8 : N ≤ 8) (hk : k < 8) : MachAt w (some ⟨Cb, 0, none⟩) 4 (some ⟨T, 0, none⟩) 4 (eagM N k) :=
  h.at_ rfl rfl (fun i hi => ecode_sh N i hi) (fun j hj => ⟨by unfold eath; split <;> simp [eacalls_len], fun c hc => eath_mem hc⟩)
theorem mk_zeros (w : World) (n : Nat) (hn : n ≤ 6000) : ∃ cs : Array Value, (Instr.makeSlice 24 (.int .i64 (n : Int)) (.int .i64 (n : Int))).run Tryd.prog w = .ok (.slice (some ⟨w.heap.size, 0, none⟩) n n) (w.alloc (.cells cs 3)) ∧
    Sl (w.alloc (.cells cs 3)) 1 (some ⟨w.heap.size, 0, none⟩) n (ints ((List.replicate n 0).map fun x : Nat => (x : Int))) := by
  have h := run_make_row' (P := Tryd.prog) 24 3 (.int .i64 0) 8 Tryd.underlying24 (by kernel_rfl) rfl .i64 .i64 n (by omega) (by omega) w
  refine ⟨_, h, ?_⟩
  have e : (Go.madeCells #[.int .i64 0] n).toList = ints ((List.replicate n 0).map fun x : Nat => (x : Int)) := by
    rw [Go.toList_madeCells_one, List.map_replicate]
    unfold ints
    clear h
    induction n with
    | zero => rfl
    | succ n ih => rw [List.replicate_succ, List.replicate_succ, List.flatMap_cons, ← ih (by omega)]; rfl
  rw [← e]
  exact Sl.fresh w _ 3 1 n (by rw [← Array.length_toList, Go.toList_madeCells_one]; simp)
set_option maxHeartbeats 8000000 in
set_option maxRecDepth 100000 in
theorem law_epochAgain (xi yi : Int) (w : World) (ha : -9223372036854775808 ≤ xi) (ha1 : xi ≤ 9223372036854775807) (hb : -9223372036854775808 ≤ yi) (hb1 : yi ≤ 9223372036854775807) (hT : STab w) :
    Calls Tryd.prog 11 #[.int .i64 xi, .int .i64 yi] w fun e w' => e = .returned (.bool true) ∧ Below w.heap.size w w' := by
  have HT := hid hT
  clear hT
  have m1 := pk_lt xi 8 (by decide)
  obtain ⟨N, hR⟩ : ∃ N : Nat, wrap64 (1 + (pk xi 8 : Int)) = (N : Int) ∧ N = 1 + pk xi 8 := ⟨1 + pk xi 8, by rw [wrap_mid (by omega) (by omega)]; omega, rfl⟩
  have h1 : 1 ≤ N := by omega
  have h8 : N ≤ 8 := by omega
  have HR := hid hR.1
  clear hR m1
  go_enter Tryd.func11, Tryd.ntmps11
  go_wp2_with fail
  refine (picked xi 8 w (by decide) ha ha1 (by decide)).mono ?_
  rintro e w' ⟨rfl, rfl⟩
  go_wp2_with fail
  try rw [HR.out]
  refine (picked yi (N : Int) w (by omega) hb hb1 (by omega)).mono ?_
  rintro e w' ⟨rfl, rfl⟩
  have m2 := pk_lt yi (N : Int) (by omega)
  obtain ⟨k, hk⟩ : ∃ k : Nat, pk yi N = k := ⟨_, rfl⟩
  rw [hk] at m2 ⊢
  have hkN : k < N := by omega
  clear hk m2 hb hb1 ha ha1 HR
  go_wp2_with fail
  refine (epoch_machine0 N none 0 0 [] w h1 h8 (by decide) ⟨rfl, fun h => absurd h (by decide)⟩ (by intro x hx; cases hx) HT.out rfl).mono ?_
  rintro e w1 hp1
  obtain ⟨AW, cW, Cb, T0, cv, tv0, av0, rfl, hW, hM, b1⟩ := hp1
  have HM := hid hM; have B1 := hid b1; have HW := hid hW
  clear hM b1 hW
  obtain ⟨X, hX⟩ : ∃ X, w1.heap.size = X := ⟨_, rfl⟩
  go_upto_region 6 with fail
  have HX0 := hid (blkN w1 34 #[.slice AW (N + 5) cW, .slice (some ⟨Cb, 0, none⟩) 4 4, .slice (some ⟨T0, 0, none⟩) 4 4] X hX)
  have BA := hid (bgo B1.out (bnew (bnil w1) (.cells #[.slice AW (N + 5) cW, .slice (some ⟨Cb, 0, none⟩) 4 4, .slice (some ⟨T0, 0, none⟩) 4 4] 34)))
  have HM0 := hid (HM.out.below (bnew (bnil w1) (.cells #[.slice AW (N + 5) cW, .slice (some ⟨Cb, 0, none⟩) 4 4, .slice (some ⟨T0, 0, none⟩) 4 4] 34)))
  have HWA := hid (own_below HW.out (bnew (bnil w1) (.cells #[.slice AW (N + 5) cW, .slice (some ⟨Cb, 0, none⟩) 4 4, .slice (some ⟨T0, 0, none⟩) 4 4] 34)))
  have hXw : w.heap.size ≤ X := by rw [← hX]; exact B1.out.size
  try rw [hX]
  generalize World.alloc w1 _ = wA at *
  clear hX HM HW B1
  have y2 : wA.cell? ⟨X, 2, none⟩ = some (.slice (some ⟨T0, 0, none⟩) 4 4) := HX0.out.cell 2
  have HXa := hid (HX0.out.alloc (.cells #[.slice none 0 0, .slice none 0 0, .slice none 0 0, .slice none 0 0] 50))
  have z2 := HXa.out.frozen 2
  have y2a : (wA.alloc (.cells #[.slice none 0 0, .slice none 0 0, .slice none 0 0, .slice none 0 0] 50)).cell? ⟨X, 2, none⟩ = some (.slice (some ⟨T0, 0, none⟩) 4 4) := HXa.out.cell 2
  have hmk := mkT4 wA
  obtain ⟨T, hT⟩ : ∃ T, wA.heap.size = T := ⟨_, rfl⟩
  go_wp2_with fail
  obtain ⟨wE, hwE⟩ : ∃ wE, World.setCell (wA.alloc (.cells #[.slice none 0 0, .slice none 0 0, .slice none 0 0, .slice none 0 0] 50)) ⟨X, 2, none⟩ (.slice (some ⟨T, 0, none⟩) 4 4) = wE := ⟨_, rfl⟩
  have HTB := hid (blkN wA 50 #[.slice none 0 0, .slice none 0 0, .slice none 0 0, .slice none 0 0] T hT)
  rw [hwE]
  have BU := hid (show ABun w wE X Cb T 4 4 (.slice AW (N + 5) cW) (List.replicate (N + 5) (0 : Int)) cv (fun i => [epinCode, eunpinCode, eretireCode, efreeCode N].getD i []) (fun _ => .slice none 0 0) (eath k 0) (fun _ => []) from by
    have hC : Chg (fun q => q = X) (wA.alloc (.cells #[.slice none 0 0, .slice none 0 0, .slice none 0 0, .slice none 0 0] 50)) wE := by rw [← hwE]; exact (Chg.refl (fun q => q = X) _).setCell (p := ⟨X, 2, none⟩) (fun _ => rfl) _
    have bA := bnew (bnil wA) (.cells #[.slice none 0 0, .slice none 0 0, .slice none 0 0, .slice none 0 0] 50)
    have ok : ∀ {B e sz n' : Nat} {v : Value} {xs : List Value}, e ≠ 34 → wA.ownsRow B e sz v n' xs → wE.ownsRow B e sz v n' xs := fun h1 h2 => own_chg (own_below h2 bA) hC fun q hq e => own_ne_blk (own_below h2 bA) HXa.out h1 (by rw [hq, e])
    have bk : ∀ {g t : Nat} {cs : Array Value}, t ≠ 34 → Blk (wA.alloc (.cells #[.slice none 0 0, .slice none 0 0, .slice none 0 0, .slice none 0 0] 50)) g t cs → Blk wE g t cs := fun h1 h2 => hC.blk h2 fun e => by subst e; exact h1 (blk_ty h2 HXa.out)
    refine ⟨?_, ?_, ?_, ?_⟩
    · rw [← hwE]; exact (bgo BA.out bA).setCell (p := ⟨X, 2, none⟩) hXw _
    · rw [← hwE]; exact HXa.out.set_ 2 _
    · rw [List.length_replicate]; exact ok (by decide) HWA.out
    · rw [eath_zero]
      exact MN.start (v := fun _ => undef) HM0.out.geC (by rw [← hT]; exact BA.out.size) (bk (by decide) (HM0.out.cb.alloc _)) (bk (by decide) HTB.out) (fun i hi => ok (by decide) (HM0.out.os i hi)))
  clear hwE HTB hmk y2 y2a z2 HXa HX0 HM0 HWA hXw
  go_loopw [9] (fun v wx => ∃ (i : Nat) (tv : Nat → Value) (av : Nat → List SV), i ≤ 6 ∧ v = .int .i64 i ∧ Hid (ABun w wx X Cb T 4 4 (.slice AW (N + 5) cW) (List.replicate (N + 5) (0 : Int)) cv (fun i => [epinCode, eunpinCode, eretireCode, efreeCode N].getD i []) tv (eath k i) av)) (fun v _ => 6 - (intOf v).toNat)
  case atStart => exact ⟨0, _, _, Nat.zero_le _, rfl, BU⟩
  case round =>
    clear BU
    obtain ⟨i, tv, av, hi6, rfl, HX⟩ := hrel
    by_cases hlt : i < 6
    · have i1 : (i : Int) < 6 := by omega
      have HLN := hid (show (eath k i 0).length ≤ 20 by unfold eath; rw [if_pos rfl, eacalls_len]; omega)
      have HOF0 := hid (show ∀ (LIT : Obj) (k' : Nat) (c : VCall) (a : SV), ([⟨2, [(k : Int)]⟩, ⟨3, []⟩, ⟨3, []⟩] : List VCall)[k']? = some c → ([⟨some ⟨wr.heap.size, 0, none⟩, 1, 1⟩, ⟨none, 0, 0⟩, ⟨none, 0, 0⟩] : List SV)[k']? = some a → (((wr.alloc (.cells #[.int .i64 (k : Int)] 3)).alloc LIT).drew).ownsRow w.heap.size 3 1 a.v c.args.length (c.args.flatMap gI) from by
        intro LIT k' c a hc ha
        have hge : w.heap.size ≤ wr.heap.size := HX.out.below.size
        match k', hc, ha with
        | 0, hc, ha =>
          injection hc with hc; injection ha with ha; subst hc ha
          have hB : Blk (((wr.alloc (.cells #[.int .i64 (k : Int)] 3)).alloc LIT).drew) (wr.heap.size) 3 #[.int .i64 (k : Int)] := (Blk.new wr _ _).alloc _
          exact ⟨rfl, .inr ⟨wr.heap.size, 1, #[.int .i64 (k : Int)], rfl, by omega, hB, Nat.le_refl _, by unfold maxLen; omega, rfl, rfl⟩⟩
        | 1, hc, ha => injection hc with hc; injection ha with ha; subst hc ha; exact own0 _ _ _ 1
        | 2, hc, ha => injection hc with hc; injection ha with ha; subst hc ha; exact own0 _ _ _ 1
        | k + 3, hc, ha => cases hc)
      obtain ⟨Aj, cj, hAj, HR0⟩ := HX.out.row (j := 0) (by omega)
      obtain ⟨L, hL⟩ : ∃ L, ((eath k i) 0).length = L := ⟨_, rfl⟩
      rw [hL] at hAj HR0
      have hL18 : L ≤ 20 := by rw [← hL]; exact HLN.out
      obtain ⟨y0, hy0⟩ : ∃ y, ((eath k i) 0).zip (av 0) ++ [((⟨2, [(k : Int)]⟩ : VCall), (⟨some ⟨wr.heap.size, 0, none⟩, 1, 1⟩ : SV)), ((⟨3, []⟩ : VCall), (⟨none, 0, 0⟩ : SV)), ((⟨3, []⟩ : VCall), (⟨none, 0, 0⟩ : SV))] = y := ⟨_, rfl⟩
      have HYE0 := hid hy0
      have HYL0 := hid (show y0.length = L + 3 by rw [← hy0, List.length_append, HR0.len]; rfl)
      clear hy0
      have HR := hid HR0
      have HAJ := hid hAj
      have c2x := HR.out.c2; have c3 := HR.out.c3; have f3 := HR.out.f3; have hcj := HR.out.hcj; have hcm := HR.out.hcm
      unfold maxLen at hcm
      clear HR0 hAj hL
      have ltT := World.block_lt_of_cell? wr _ c3
      have ltX := World.block_lt_of_cell? wr _ c2x
      have ltT1 : T < wr.heap.size + 1 := Nat.lt_succ_of_lt ltT
      have ltT2 : T < wr.heap.size + 1 + 1 := Nat.lt_succ_of_lt ltT1
      have hq3 : ∀ o1 o2 o3 : Obj, (((wr.alloc o1).alloc o2).alloc o3).cell? ⟨T, 0, none⟩ = some (.slice Aj L cj) := fun o1 o2 o3 => cell_below (bnew (bnew (bnew (bnil wr) o1) o2) o3) c3
      go_upto_region 10 with fail
      refine wp_region_held_drew (S := (fun w' => w'.cell? ⟨X, 2, none⟩ = some (.slice (some ⟨T, 0, none⟩) 4 4) ∧ w'.frozen? ⟨T, 0, none⟩ = false)) (by kernel_rfl) ?_ (fun hHeld => ?_)
      · (try dsimp only); (first | assumption | exact ⟨c2x, f3⟩ | exact HZ.1 | exact HZ.2.2 _ | (refine sees2f ?_ c2x c3 f3; (repeat (first | exact bnil _ | refine Below.drew ?_ | refine bnew ?_ _))))
      refine wpAnyH_take (i := 0) (oi := ⟨some 32, _, _, _, _, _⟩) (v := ?_) rfl (by kernel_rfl) (by kernel_rfl) (by kernel_rfl) (fun _ _ _ h => h) (Or.inl ⟨by rfl, ?_⟩) (by assumption) ?_
      rotate_left
      · intro w hSw; (try dsimp only at hSw); go_simp <;> with_reducible rfl
      try simp only [Act.put, List.setIfInBounds_toArray, List.set_cons_zero, List.set_cons_succ]
      refine wpAnyH_take (i := 1) (oi := ⟨some 33, _, _, _, _, _⟩) (v := ?_) rfl (by kernel_rfl) (by kernel_rfl) (by kernel_rfl) (fun _ _ _ h => h) (Or.inl ⟨by rfl, ?_⟩) (by assumption) ?_
      rotate_left
      · intro w hSw; (try dsimp only at hSw); go_simp <;> with_reducible rfl
      try simp only [Act.put, List.setIfInBounds_toArray, List.set_cons_zero, List.set_cons_succ]
      refine wpAnyH_take (i := 2) (oi := ⟨some 34, _, _, _, _, _⟩) (v := ?_) rfl (by kernel_rfl) (by kernel_rfl) (by kernel_rfl) (fun _ _ _ h => h) (Or.inl ⟨by rfl, ?_⟩) (by assumption) ?_
      rotate_left
      · intro w hSw; (try dsimp only at hSw); go_simp <;> with_reducible rfl
      try simp only [Act.put, List.setIfInBounds_toArray, List.set_cons_zero, List.set_cons_succ]
      refine wpAnyH_take (i := 3) (oi := ⟨some 35, _, _, _, _, _⟩) (v := ?_) rfl (by kernel_rfl) (by kernel_rfl) (by kernel_rfl) (fun _ _ _ h => h) (Or.inl ⟨by rfl, ?_⟩) (by assumption) ?_
      rotate_left
      · intro w hSw; (try dsimp only at hSw); go_simp <;> with_reducible rfl
      try simp only [Act.put, List.setIfInBounds_toArray, List.set_cons_zero, List.set_cons_succ]
      refine wpAnyH_take (i := 4) (oi := ⟨some 36, _, _, _, _, _⟩) (v := ?_) rfl (by kernel_rfl) (by kernel_rfl) (by kernel_rfl) (fun _ _ _ h => h) (Or.inl ⟨by rfl, ?_⟩) (by assumption) ?_
      rotate_left
      · intro w hSw; (try dsimp only at hSw); go_simp <;> with_reducible rfl
      try simp only [Act.put, List.setIfInBounds_toArray, List.set_cons_zero, List.set_cons_succ]
      refine wpAnyH_take (i := 6) (oi := ⟨some 38, _, _, _, _, _⟩) (v := ?_) rfl (by kernel_rfl) (by kernel_rfl) (by kernel_rfl) (fun _ _ _ h => h) (Or.inl ⟨by rfl, ?_⟩) (by assumption) ?_
      rotate_left
      · intro w hSw; (try dsimp only at hSw); go_simp <;> with_reducible rfl
      try simp only [Act.put, List.setIfInBounds_toArray, List.set_cons_zero, List.set_cons_succ]
      refine wpAnyH_take (i := 9) (oi := ⟨some 41, _, _, _, _, _⟩) (v := ?_) rfl (by kernel_rfl) (by kernel_rfl) (by kernel_rfl) (fun _ _ _ h => h) (Or.inl ⟨by rfl, ?_⟩) (by assumption) ?_
      rotate_left
      · intro w hSw; (try dsimp only at hSw); go_simp <;> with_reducible rfl
      try simp only [Act.put, List.setIfInBounds_toArray, List.set_cons_zero, List.set_cons_succ]
      refine wpAnyH_take (i := 10) (oi := ⟨some 42, _, _, _, _, _⟩) (v := ?_) rfl (by kernel_rfl) (by kernel_rfl) (by kernel_rfl) (fun _ _ _ h => h) (Or.inl ⟨by rfl, ?_⟩) (by assumption) ?_
      rotate_left
      · intro w hSw; (try dsimp only at hSw); go_simp <;> with_reducible rfl
      try simp only [Act.put, List.setIfInBounds_toArray, List.set_cons_zero, List.set_cons_succ]
      refine wpAnyH_ready (rs := [5, 7]) (by kernel_rfl) (by simp) ?_
      refine AllReadyH.cons (o := ⟨some 37, _, _, _, _, _⟩) rfl (fun K hK => ?_) ?_
      go_simp
      refine hK.out _ _ ?_ (fun hHeld => ?_)
      · (try dsimp only); (first | assumption | exact ⟨c2x, f3⟩ | exact HZ.1 | exact HZ.2.2 _ | (refine sees2f ?_ c2x c3 f3; (repeat (first | exact bnil _ | refine Below.drew ?_ | refine bnew ?_ _))))
      clear hK K
      try simp only [Act.put, List.setIfInBounds_toArray, List.set_cons_zero, List.set_cons_succ]
      refine wpAnyH_ready (rs := [7]) (by kernel_rfl) (by simp) ?_
      refine AllReadyH.cons (o := ⟨some 39, _, _, _, _, _⟩) rfl (fun K hK => ?_) AllReadyH.nil
      go_simp
      refine hK.out _ _ ?_ (fun hHeld => ?_)
      · (try dsimp only); (first | assumption | exact ⟨c2x, f3⟩ | exact HZ.1 | exact HZ.2.2 _ | (refine sees2f ?_ c2x c3 f3; (repeat (first | exact bnil _ | refine Below.drew ?_ | refine bnew ?_ _))))
      clear hK K
      try simp only [Act.put, List.setIfInBounds_toArray, List.set_cons_zero, List.set_cons_succ]
      refine wpAnyH_take (i := 8) (oi := ⟨some 40, _, _, _, _, _⟩) (v := ?_) rfl (by kernel_rfl) (by kernel_rfl) (by kernel_rfl) (fun _ _ _ h => h) (Or.inl ⟨by rfl, ?_⟩) (by assumption) ?_
      rotate_left
      · intro w hSw; (try dsimp only at hSw); go_simp <;> with_reducible rfl
      try simp only [Act.put, List.setIfInBounds_toArray, List.set_cons_zero, List.set_cons_succ]
      refine wpAnyH_ready (rs := [11]) (by kernel_rfl) (by simp) ?_
      refine AllReadyH.cons (o := ⟨some 43, _, _, _, _, _⟩) rfl (fun K hK => ?_) AllReadyH.nil
      go_simp
      refine hK.out _ _ ?_ (fun hHeld => ?_)
      · (try dsimp only); (first | assumption | exact ⟨c2x, f3⟩ | exact HZ.1 | exact HZ.2.2 _ | (refine sees2f ?_ c2x c3 f3; (repeat (first | exact bnil _ | refine Below.drew ?_ | refine bnew ?_ _))))
      clear hK K
      try simp only [Act.put, List.setIfInBounds_toArray, List.set_cons_zero, List.set_cons_succ]
      refine wpAnyH_ready (rs := [12]) (by kernel_rfl) (by simp) ?_
      refine AllReadyH.cons (o := ⟨some 44, _, _, _, _, _⟩) rfl (fun K hK => ?_) AllReadyH.nil
      (refine step_appC elmCN gS_one rfl (.tmp 37) (.tmp 43) rfl (.slice Aj L cj) (((eath k i) 0).zip (av 0)) rfl (HR.out.row _ (bnew (bnew (bnil _) _) _).drew) [((⟨2, [(k : Int)]⟩ : VCall), (⟨some ⟨wr.heap.size, 0, none⟩, 1, 1⟩ : SV)), ((⟨3, []⟩ : VCall), (⟨none, 0, 0⟩ : SV)), ((⟨3, []⟩ : VCall), (⟨none, 0, 0⟩ : SV))] y0 HYE0 rfl (Sl.drew (Sl.fresh' _ #[_, _, _, _, _, _] 49 2 3 _ (by simp) rfl)) rfl (by rw [HYL0.out]; simp only [maxLen]; omega) (by rw [HYL0.out]; omega) (Nat.le_trans HR.out.size (bnew (bnew (bnil _) _) _).drew.size) ?_; intro E6 c6 w6 hc6 hc7 HN6 HG6 HO6; have HZ := HR.out.grow _ w6 (bnew (bnew (bnil _) _) _).drew HG6.out)
      refine hK.out _ _ ?_ (fun hHeld => ?_)
      · (try dsimp only); (first | assumption | exact ⟨c2x, f3⟩ | exact HZ.1 | exact HZ.2.2 _ | (refine sees2f ?_ c2x c3 f3; (repeat (first | exact bnil _ | refine Below.drew ?_ | refine bnew ?_ _))))
      clear hK K
      try simp only [Act.put, List.setIfInBounds_toArray, List.set_cons_zero, List.set_cons_succ]
      refine wpAnyH_take (i := 13) (oi := ⟨some 45, _, _, _, _, _⟩) (v := ?_) rfl (by kernel_rfl) (by kernel_rfl) (by kernel_rfl) (fun _ _ _ h => h) (Or.inl ⟨by rfl, ?_⟩) (by assumption) ?_
      rotate_left
      · intro w hSw; (try dsimp only at hSw); go_simp <;> with_reducible rfl
      try simp only [Act.put, List.setIfInBounds_toArray, List.set_cons_zero, List.set_cons_succ]
      refine wpAnyH_ready (rs := [14]) (by kernel_rfl) (by simp) ?_
      refine AllReadyH.cons (o := ⟨none, _, _, _, _, _⟩) rfl (fun K hK => ?_) AllReadyH.nil
      go_simp
      refine hK.out _ _ ?_ (fun hHeld => ?_)
      · (try dsimp only); (first | assumption | exact ⟨c2x, f3⟩ | exact HZ.1 | exact HZ.2.2 _ | (refine sees2f ?_ c2x c3 f3; (repeat (first | exact bnil _ | refine Below.drew ?_ | refine bnew ?_ _))))
      clear hK K
      try dsimp only [Act.put]
      refine wpAnyH_done (by kernel_rfl) ?_ _
      rotate_left
      refine AllReadyH.cons (o := ⟨some 39, _, _, _, _, _⟩) rfl (fun K hK => ?_) AllReadyH.nil
      go_simp
      refine hK.out _ _ ?_ (fun hHeld => ?_)
      · (try dsimp only); (first | assumption | exact ⟨c2x, f3⟩ | exact HZ.1 | exact HZ.2.2 _ | (refine sees2f ?_ c2x c3 f3; (repeat (first | exact bnil _ | refine Below.drew ?_ | refine bnew ?_ _))))
      clear hK K
      try simp only [Act.put, List.setIfInBounds_toArray, List.set_cons_zero, List.set_cons_succ]
      refine wpAnyH_take (i := 8) (oi := ⟨some 40, _, _, _, _, _⟩) (v := ?_) rfl (by kernel_rfl) (by kernel_rfl) (by kernel_rfl) (fun _ _ _ h => h) (Or.inl ⟨by rfl, ?_⟩) (by assumption) ?_
      rotate_left
      · intro w hSw; (try dsimp only at hSw); go_simp <;> with_reducible rfl
      try simp only [Act.put, List.setIfInBounds_toArray, List.set_cons_zero, List.set_cons_succ]
      refine wpAnyH_ready (rs := [5, 11]) (by kernel_rfl) (by simp) ?_
      refine AllReadyH.cons (o := ⟨some 37, _, _, _, _, _⟩) rfl (fun K hK => ?_) ?_
      go_simp
      refine hK.out _ _ ?_ (fun hHeld => ?_)
      · (try dsimp only); (first | assumption | exact ⟨c2x, f3⟩ | exact HZ.1 | exact HZ.2.2 _ | (refine sees2f ?_ c2x c3 f3; (repeat (first | exact bnil _ | refine Below.drew ?_ | refine bnew ?_ _))))
      clear hK K
      try simp only [Act.put, List.setIfInBounds_toArray, List.set_cons_zero, List.set_cons_succ]
      refine wpAnyH_ready (rs := [11]) (by kernel_rfl) (by simp) ?_
      refine AllReadyH.cons (o := ⟨some 43, _, _, _, _, _⟩) rfl (fun K hK => ?_) AllReadyH.nil
      go_simp
      refine hK.out _ _ ?_ (fun hHeld => ?_)
      · (try dsimp only); (first | assumption | exact ⟨c2x, f3⟩ | exact HZ.1 | exact HZ.2.2 _ | (refine sees2f ?_ c2x c3 f3; (repeat (first | exact bnil _ | refine Below.drew ?_ | refine bnew ?_ _))))
      clear hK K
      try simp only [Act.put, List.setIfInBounds_toArray, List.set_cons_zero, List.set_cons_succ]
      refine wpAnyH_ready (rs := [12]) (by kernel_rfl) (by simp) ?_
      refine AllReadyH.cons (o := ⟨some 44, _, _, _, _, _⟩) rfl (fun K hK => ?_) AllReadyH.nil
      (refine step_appC elmCN gS_one rfl (.tmp 37) (.tmp 43) rfl (.slice Aj L cj) (((eath k i) 0).zip (av 0)) rfl (HR.out.row _ (bnew (bnew (bnil _) _) _).drew) [((⟨2, [(k : Int)]⟩ : VCall), (⟨some ⟨wr.heap.size, 0, none⟩, 1, 1⟩ : SV)), ((⟨3, []⟩ : VCall), (⟨none, 0, 0⟩ : SV)), ((⟨3, []⟩ : VCall), (⟨none, 0, 0⟩ : SV))] y0 HYE0 rfl (Sl.drew (Sl.fresh' _ #[_, _, _, _, _, _] 49 2 3 _ (by simp) rfl)) rfl (by rw [HYL0.out]; simp only [maxLen]; omega) (by rw [HYL0.out]; omega) (Nat.le_trans HR.out.size (bnew (bnew (bnil _) _) _).drew.size) ?_; intro E6 c6 w6 hc6 hc7 HN6 HG6 HO6; have HZ := HR.out.grow _ w6 (bnew (bnew (bnil _) _) _).drew HG6.out)
      refine hK.out _ _ ?_ (fun hHeld => ?_)
      · (try dsimp only); (first | assumption | exact ⟨c2x, f3⟩ | exact HZ.1 | exact HZ.2.2 _ | (refine sees2f ?_ c2x c3 f3; (repeat (first | exact bnil _ | refine Below.drew ?_ | refine bnew ?_ _))))
      clear hK K
      try simp only [Act.put, List.setIfInBounds_toArray, List.set_cons_zero, List.set_cons_succ]
      refine wpAnyH_take (i := 13) (oi := ⟨some 45, _, _, _, _, _⟩) (v := ?_) rfl (by kernel_rfl) (by kernel_rfl) (by kernel_rfl) (fun _ _ _ h => h) (Or.inl ⟨by rfl, ?_⟩) (by assumption) ?_
      rotate_left
      · intro w hSw; (try dsimp only at hSw); go_simp <;> with_reducible rfl
      try simp only [Act.put, List.setIfInBounds_toArray, List.set_cons_zero, List.set_cons_succ]
      refine wpAnyH_ready (rs := [14]) (by kernel_rfl) (by simp) ?_
      refine AllReadyH.cons (o := ⟨none, _, _, _, _, _⟩) rfl (fun K hK => ?_) AllReadyH.nil
      go_simp
      refine hK.out _ _ ?_ (fun hHeld => ?_)
      · (try dsimp only); (first | assumption | exact ⟨c2x, f3⟩ | exact HZ.1 | exact HZ.2.2 _ | (refine sees2f ?_ c2x c3 f3; (repeat (first | exact bnil _ | refine Below.drew ?_ | refine bnew ?_ _))))
      clear hK K
      try dsimp only [Act.put]
      refine wpAnyH_done (by kernel_rfl) ?_ _
      rotate_left
      refine AllReadyH.cons (o := ⟨some 43, _, _, _, _, _⟩) rfl (fun K hK => ?_) AllReadyH.nil
      go_simp
      refine hK.out _ _ ?_ (fun hHeld => ?_)
      · (try dsimp only); (first | assumption | exact ⟨c2x, f3⟩ | exact HZ.1 | exact HZ.2.2 _ | (refine sees2f ?_ c2x c3 f3; (repeat (first | exact bnil _ | refine Below.drew ?_ | refine bnew ?_ _))))
      clear hK K
      try simp only [Act.put, List.setIfInBounds_toArray, List.set_cons_zero, List.set_cons_succ]
      refine wpAnyH_ready (rs := [5]) (by kernel_rfl) (by simp) ?_
      refine AllReadyH.cons (o := ⟨some 37, _, _, _, _, _⟩) rfl (fun K hK => ?_) AllReadyH.nil
      go_simp
      refine hK.out _ _ ?_ (fun hHeld => ?_)
      · (try dsimp only); (first | assumption | exact ⟨c2x, f3⟩ | exact HZ.1 | exact HZ.2.2 _ | (refine sees2f ?_ c2x c3 f3; (repeat (first | exact bnil _ | refine Below.drew ?_ | refine bnew ?_ _))))
      clear hK K
      try simp only [Act.put, List.setIfInBounds_toArray, List.set_cons_zero, List.set_cons_succ]
      refine wpAnyH_ready (rs := [12]) (by kernel_rfl) (by simp) ?_
      refine AllReadyH.cons (o := ⟨some 44, _, _, _, _, _⟩) rfl (fun K hK => ?_) AllReadyH.nil
      (refine step_appC elmCN gS_one rfl (.tmp 37) (.tmp 43) rfl (.slice Aj L cj) (((eath k i) 0).zip (av 0)) rfl (HR.out.row _ (bnew (bnew (bnil _) _) _).drew) [((⟨2, [(k : Int)]⟩ : VCall), (⟨some ⟨wr.heap.size, 0, none⟩, 1, 1⟩ : SV)), ((⟨3, []⟩ : VCall), (⟨none, 0, 0⟩ : SV)), ((⟨3, []⟩ : VCall), (⟨none, 0, 0⟩ : SV))] y0 HYE0 rfl (Sl.drew (Sl.fresh' _ #[_, _, _, _, _, _] 49 2 3 _ (by simp) rfl)) rfl (by rw [HYL0.out]; simp only [maxLen]; omega) (by rw [HYL0.out]; omega) (Nat.le_trans HR.out.size (bnew (bnew (bnil _) _) _).drew.size) ?_; intro E6 c6 w6 hc6 hc7 HN6 HG6 HO6; have HZ := HR.out.grow _ w6 (bnew (bnew (bnil _) _) _).drew HG6.out)
      refine hK.out _ _ ?_ (fun hHeld => ?_)
      · (try dsimp only); (first | assumption | exact ⟨c2x, f3⟩ | exact HZ.1 | exact HZ.2.2 _ | (refine sees2f ?_ c2x c3 f3; (repeat (first | exact bnil _ | refine Below.drew ?_ | refine bnew ?_ _))))
      clear hK K
      try simp only [Act.put, List.setIfInBounds_toArray, List.set_cons_zero, List.set_cons_succ]
      refine wpAnyH_take (i := 13) (oi := ⟨some 45, _, _, _, _, _⟩) (v := ?_) rfl (by kernel_rfl) (by kernel_rfl) (by kernel_rfl) (fun _ _ _ h => h) (Or.inl ⟨by rfl, ?_⟩) (by assumption) ?_
      rotate_left
      · intro w hSw; (try dsimp only at hSw); go_simp <;> with_reducible rfl
      try simp only [Act.put, List.setIfInBounds_toArray, List.set_cons_zero, List.set_cons_succ]
      refine wpAnyH_ready (rs := [14]) (by kernel_rfl) (by simp) ?_
      refine AllReadyH.cons (o := ⟨none, _, _, _, _, _⟩) rfl (fun K hK => ?_) AllReadyH.nil
      go_simp
      refine hK.out _ _ ?_ (fun hHeld => ?_)
      · (try dsimp only); (first | assumption | exact ⟨c2x, f3⟩ | exact HZ.1 | exact HZ.2.2 _ | (refine sees2f ?_ c2x c3 f3; (repeat (first | exact bnil _ | refine Below.drew ?_ | refine bnew ?_ _))))
      clear hK K
      try dsimp only [Act.put]
      refine wpAnyH_done (by kernel_rfl) ?_ _
      rotate_left
      all_goals
        have HF := hid (HX.out.app (j := 0) (by omega) [⟨2, [(k : Int)]⟩, ⟨3, []⟩, ⟨3, []⟩] [⟨some ⟨wr.heap.size, 0, none⟩, 1, 1⟩, ⟨none, 0, 0⟩, ⟨none, 0, 0⟩] (bnew (bnew (bnil _) _) _).drew rfl (HOF0.out _) HYE0.out (by rw [HAJ.out]; exact HG6.out) (by rw [HAJ.out]; exact HO6.out) HN6.out)
        clear HZ HG6 HO6 HN6
        go_wp2_with fail
        go_roundw
        case rel => exact ⟨i + 1, _, _, by omega, by go_num, hid (by have h1 := HF.out; rw [eath_app] at h1; exact h1)⟩
        case measure => simp [intOf]; omega
    · obtain rfl : i = 6 := by omega
      have i1 : ¬ ((6 : Nat) : Int) < 6 := by omega
      have HWL := hid (show (List.replicate (N + 5) (0 : Int)).length = N + 5 by rw [List.length_replicate])
      have HWR := hid (show wr.ownsRow w.heap.size 3 1 (.slice AW (N + 5) cW) (N + 5) ((List.replicate (N + 5) (0 : Int)).flatMap gI) by have h := HX.out.own; rw [HWL.out] at h; exact h)
      have HEA := hid (epoch_again h1 h8 hkN)
      have HTR := hid (HT.out.below HX.out.below)
      have BR := hid HX.out.below
      have HMA := hid (eagM_at HX.out.mn h8 (by omega))
      have x0 : wr.cell? ⟨X, 0, none⟩ = some (.slice AW (N + 5) cW) := HX.out.hx.cell 0
      have x1 : wr.cell? ⟨X, 1, none⟩ = some (.slice (some ⟨Cb, 0, none⟩) 4 4) := HX.out.hx.cell 1
      have x2 : wr.cell? ⟨X, 2, none⟩ = some (.slice (some ⟨T, 0, none⟩) 4 4) := HX.out.hx.cell 2
      clear HX BA
      obtain ⟨cz, hmk0, hsl⟩ := mk_zeros wr.drew 4500 (by decide)
      have hmk : (Instr.makeSlice 24 (.int .i64 4500) (.int .i64 4500)).run Tryd.prog wr.drew = .ok (.slice (some ⟨wr.drew.heap.size, 0, none⟩) 4500 4500) (wr.drew.alloc (.cells cz 3)) := hmk0
      clear hmk0
      have HSL := hid hsl
      clear hsl
      obtain ⟨Z, hZ⟩ : ∃ Z : List Nat, List.replicate 4500 0 = Z := ⟨_, rfl⟩
      rw [hZ] at HSL HEA
      have HZ4 := hid (show ∀ x ∈ Z, x < 4 by rw [← hZ]; intro x hx; rw [List.eq_of_mem_replicate hx]; decide)
      clear hZ
      have BZ := hid (bnew (bnil wr).drew (.cells cz 3))
      go_upto_region 11 with fail
      refine wp_region_held_drew (S := (fun w' => w'.cell? ⟨X, 0, none⟩ = some (.slice AW (N + 5) cW) ∧ w'.cell? ⟨X, 1, none⟩ = some (.slice (some ⟨Cb, 0, none⟩) 4 4) ∧ w'.cell? ⟨X, 2, none⟩ = some (.slice (some ⟨T, 0, none⟩) 4 4))) (by kernel_rfl) ?_ (fun hHeld => ?_)
      · (try dsimp only); (first | assumption | exact ⟨x0, x1, x2⟩ | exact ⟨cell_below BZ.out x0, cell_below BZ.out x1, cell_below BZ.out x2⟩ | exact ⟨cell_below b5 x0, cell_below b5 x1, cell_below b5 x2⟩)
      refine wpAnyH_take (i := 0) (oi := ⟨some 47, _, _, _, _, _⟩) (v := ?_) rfl (by kernel_rfl) (by kernel_rfl) (by kernel_rfl) (fun _ _ _ h => h) (Or.inl ⟨by rfl, ?_⟩) (by assumption) ?_
      rotate_left
      · intro w hSw; (try dsimp only at hSw); go_simp <;> with_reducible rfl
      try simp only [Act.put, List.setIfInBounds_toArray, List.set_cons_zero, List.set_cons_succ]
      refine wpAnyH_ready (rs := [1]) (by kernel_rfl) (by simp) ?_
      refine AllReadyH.cons (o := ⟨some 48, _, _, _, _, _⟩) rfl (fun K hK => ?_) AllReadyH.nil
      go_simp
      refine hK.out _ _ ?_ (fun hHeld => ?_)
      · (try dsimp only); (first | assumption | exact ⟨x0, x1, x2⟩ | exact ⟨cell_below BZ.out x0, cell_below BZ.out x1, cell_below BZ.out x2⟩ | exact ⟨cell_below b5 x0, cell_below b5 x1, cell_below b5 x2⟩)
      clear hK K
      try simp only [Act.put, List.setIfInBounds_toArray, List.set_cons_zero, List.set_cons_succ]
      refine wpAnyH_ready (rs := [2]) (by kernel_rfl) (by simp) ?_
      refine AllReadyH.cons (o := ⟨some 49, _, _, _, _, _⟩) rfl (fun K hK => ?_) AllReadyH.nil
      go_simp
      refine (ran_of AW (some ⟨Cb, 0, none⟩) (some ⟨T, 0, none⟩) (some ⟨wr.drew.heap.size, 0, none⟩) (N + 5) cW 4 4 4 4 4500 4500 (eagM N k) Z _ (by omega) (by decide) (by decide) (by decide) (by decide) (HTR.out.below BZ.out) (HMA.out.below BZ.out) (Sl.own (own_below HWR.out BZ.out)) HSL.out HZ4.out HEA.out.1 (play_fin _ _)).mono ?_; rintro e w5 ⟨v3, rs, rfl, hrow, hrs, htold, b5⟩; have b5 := bgo BZ.out b5
      go_wp2_with fail
      refine hK.out _ _ ?_ (fun hHeld => ?_)
      · (try dsimp only); (first | assumption | exact ⟨x0, x1, x2⟩ | exact ⟨cell_below BZ.out x0, cell_below BZ.out x1, cell_below BZ.out x2⟩ | exact ⟨cell_below b5 x0, cell_below b5 x1, cell_below b5 x2⟩)
      clear hK K
      try simp only [Act.put, List.setIfInBounds_toArray, List.set_cons_zero, List.set_cons_succ]
      refine wpAnyH_take (i := 3) (oi := ⟨some 46, _, _, _, _, _⟩) (v := ?_) rfl (by kernel_rfl) (by kernel_rfl) (by kernel_rfl) (fun _ _ _ h => h) (Or.inl ⟨by rfl, ?_⟩) (by assumption) ?_
      rotate_left
      · intro w hSw; (try dsimp only at hSw); go_simp <;> with_reducible rfl
      try simp only [Act.put, List.setIfInBounds_toArray, List.set_cons_zero, List.set_cons_succ]
      refine wpAnyH_take (i := 4) (oi := ⟨some 50, _, _, _, _, _⟩) (v := ?_) rfl (by kernel_rfl) (by kernel_rfl) (by kernel_rfl) (fun _ _ _ h => h) (Or.inl ⟨by rfl, ?_⟩) (by assumption) ?_
      rotate_left
      · intro w hSw; (try dsimp only at hSw); go_simp <;> with_reducible rfl
      try simp only [Act.put, List.setIfInBounds_toArray, List.set_cons_zero, List.set_cons_succ]
      refine wpAnyH_take (i := 5) (oi := ⟨some 51, _, _, _, _, _⟩) (v := ?_) rfl (by kernel_rfl) (by kernel_rfl) (by kernel_rfl) (fun _ _ _ h => h) (Or.inl ⟨by rfl, ?_⟩) (by assumption) ?_
      rotate_left
      · intro w hSw; (try dsimp only at hSw); go_simp <;> with_reducible rfl
      try simp only [Act.put, List.setIfInBounds_toArray, List.set_cons_zero, List.set_cons_succ]
      refine wpAnyH_take (i := 6) (oi := ⟨some 10, _, _, _, _, _⟩) (v := ?_) rfl (by kernel_rfl) (by kernel_rfl) (by kernel_rfl) (fun _ _ _ h => h) (Or.inl ⟨by rfl, ?_⟩) (by assumption) ?_
      rotate_left
      · intro w hSw; (try dsimp only at hSw); go_simp <;> with_reducible rfl
      try simp only [Act.put, List.setIfInBounds_toArray, List.set_cons_zero, List.set_cons_succ]
      refine wpAnyH_take (i := 7) (oi := ⟨some 11, _, _, _, _, _⟩) (v := ?_) rfl (by kernel_rfl) (by kernel_rfl) (by kernel_rfl) (fun _ _ _ h => h) (Or.inl ⟨by rfl, ?_⟩) (by assumption) ?_
      rotate_left
      · intro w hSw; (try dsimp only at hSw); go_simp <;> with_reducible rfl
      try simp only [Act.put, List.setIfInBounds_toArray, List.set_cons_zero, List.set_cons_succ]
      refine wpAnyH_done (by kernel_rfl) ?_ _
      rotate_left
      obtain ⟨A3, c3, rfl, hc3, hc3'⟩ := own_form hrow
      have hLD : rs.length = 18 := by have := congrArg List.length hrs; rw [List.length_map] at this; rw [this]; exact HEA.out.2.1
      rw [hLD] at hrow hc3 ⊢
      have HD := hid (DsAt.mk hLD hrow htold)
      have HRS := hid hrs
      have B5 := hid (bgo BR.out b5)
      clear hrow htold hrs b5 hLD x0 x1 x2 hHeld hmk BZ HSL HZ4 HMA HTR HWR
      go_wp2_with fail
      go_loopw [12] (fun v wx => ∃ (i : Nat), i ≤ 18 ∧ v = .int .i64 i ∧ Hid (Below w5.heap.size w5 wx)) (fun v _ => 18 - (intOf v).toNat)
      case atStart => exact ⟨0, Nat.zero_le _, rfl, hid (bnil w5)⟩
      case round =>
        obtain ⟨i, hi18, rfl, BX⟩ := hrel
        by_cases hli : i < 18
        · have j1 : (i : Int) < 18 := by omega
          obtain ⟨b9, d, Ad, cd, rfl, hd, -, -, k1, -, -, k4, ut⟩ := (HD.out.below BX.out).at_ (i := i) hli
          rw [HRS.out] at hd
          obtain ⟨-, f2, f3, f4⟩ := HEA.out.2.2 i d hd
          clear hd
          obtain ⟨E0, hE0, hE01⟩ : ∃ E0 : Int, eI d.e = E0 ∧ E0 ≠ -1 := ⟨_, rfl, by
            cases hde : d.e with
            | none => exact absurd hde f2
            | some z => show ((z : Nat) : Int) ≠ -1; omega⟩
          rw [hE0] at k1
          have e0 : (E0 == -1) = false := beqF hE01
          clear hE0 hE01 f2
          rcases (show i % 3 = 0 ∨ i % 3 = 1 ∨ i % 3 = 2 by omega) with hm | hm | hm
          · have q1 : ((i : Int).tmod 3) = 0 := by rw [Int.tmod_eq_emod_of_nonneg (by omega)]; omega
            clear ut f3 f4 k4 hm
            go_wp2_with fail
            go_roundw
            case rel => exact ⟨i + 1, by omega, by go_num, BX⟩
            case measure => simp [intOf]; omega
          · have q1 : ((i : Int).tmod 3) = 1 := by rw [Int.tmod_eq_emod_of_nonneg (by omega)]; omega
            have ht := f3 hm
            rw [ht] at k4 ut
            have HU := hid (Sl.own ut)
            clear ut f3 f4 hm ht
            have k4 : wr.cell? ⟨b9, i * 5 + 4, none⟩ = some (.slice Ad 1 cd) := k4
            go_wp2_with fail
            refine (same_ints Ad (some ⟨wr.heap.size, 0, none⟩) 1 cd 1 [(k : Int)] _ (by decide) (HU.out.below (bnew (bnil wr) _)) (Sl.fresh' _ #[_] 3 1 1 _ rfl rfl)).mono ?_
            rintro e w7 ⟨rfl, b7⟩
            have B7 := hid (bgo BX.out (bgo (bnew (bnil wr) _) b7))
            clear b7
            go_wp2_with fail
            go_roundw
            case rel => exact ⟨i + 1, by omega, by go_num, B7⟩
            case measure => simp [intOf]; omega
          · have q1 : ((i : Int).tmod 3) = 2 := by rw [Int.tmod_eq_emod_of_nonneg (by omega)]; omega
            have ht := f4 hm
            rw [ht] at k4 ut
            have HU := hid (Sl.own ut)
            clear ut f3 f4 hm ht
            have k4 : wr.cell? ⟨b9, i * 5 + 4, none⟩ = some (.slice Ad 1 cd) := k4
            go_wp2_with fail
            refine (same_ints Ad (some ⟨wr.heap.size, 0, none⟩) 1 cd 1 [-1] _ (by decide) (HU.out.below (bnew (bnil wr) _)) (Sl.fresh' _ #[_] 3 1 1 _ rfl rfl)).mono ?_
            rintro e w7 ⟨rfl, b7⟩
            have B7 := hid (bgo BX.out (bgo (bnew (bnil wr) _) b7))
            clear b7
            go_wp2_with fail
            go_roundw
            case rel => exact ⟨i + 1, by omega, by go_num, B7⟩
            case measure => simp [intOf]; omega
        · obtain rfl : i = 18 := by omega
          have j1 : ¬ ((18 : Nat) : Int) < 18 := by omega
          have B9 := hid (bgo B5.out BX.out)
          go_wp2_with fail
          go_ret
          exact ⟨rfl, B9.out⟩
end Go.Proofs.YtbcjgnigdddlkaaDoor
