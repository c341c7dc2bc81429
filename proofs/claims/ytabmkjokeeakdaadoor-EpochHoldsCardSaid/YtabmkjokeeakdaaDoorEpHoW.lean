/-
  EpochHolds: its walk. Written by gen_ephw.py.
-/
import Derived.Test.YtabmkjokeeakdaaDoorEpochAg
import Derived.Test.YtabmkjokeeakdaaDoorEpHoQ
namespace Go.Proofs.YtabmkjokeeakdaaDoor
open Go.RowKit
set_option linter.unusedVariables false

/-- a thread's row is replaced -/
theorem ABun.put {W0 w : World} {X Cb T nc nt : Nat} {Wv : Value} {ws : List Int} {cv : Nat → Value} {ks : Nat → List Op5} {tv : Nat → Value} {th : Nat → List VCall} {av : Nat → List SV} (h : ABun W0 w X Cb T nc nt Wv ws cv ks tv th av) {j : Nat} (hj : j < nt) {w' : World} {v' : Value} {cs : List VCall} {vs : List SV} (hb : Below w.heap.size w w')
    (hv : v'.ownBlock = none ∨ ∃ b, v'.ownBlock = some b ∧ w.heap.size ≤ b) (hr : CRow W0.heap.size w' v' cs vs) :
    ABun W0 (w'.setCell ⟨T, j, none⟩ v') X Cb T nc nt Wv ws cv ks (upd tv j v') (upd th j cs) (upd av j vs) := by
  have hG : w.grownBy w' (tv j).ownBlock := ⟨hb.os, hb.tape, hb.output, hb.size, fun k hk _ => hb.block k hk⟩
  have hC : Chg (fun k => k = T) w' (w'.setCell ⟨T, j, none⟩ v') := (Chg.refl (fun k => k = T) w').setCell (p := ⟨T, j, none⟩) (fun _ => rfl) _
  have hTB := h.mn.tb.below' hb
  have hXB := h.hx.below' hb
  exact ⟨(bgo h.below hb).setCell (p := ⟨T, j, none⟩) h.mn.geT _, hC.blk hXB (hXB.ne_ hTB (by decide)), own_chg (own_below h.own hb) hC fun k hk e => own_ne_blk (own_below h.own hb) hTB (by decide) (by rw [hk, e]), h.mn.put hj hG (.inr hv) hr⟩
theorem crow_two {B : Nat} (w : World) (x : Int) (hB : B ≤ w.heap.size) : CRow B (((w.alloc (.cells #[.int .i64 x] 3)).alloc (.cells #[.int .i64 x] 3)).alloc (.cells #[.int .i64 0, .slice (some ⟨w.heap.size, 0, none⟩) 1 1, .int .i64 1, .slice (some ⟨w.heap.size + 1, 0, none⟩) 1 1] 35)) (.slice (some ⟨w.heap.size + 1 + 1, 0, none⟩) 2 2) [⟨0, [x]⟩, ⟨1, [x]⟩] [⟨some ⟨w.heap.size, 0, none⟩, 1, 1⟩, ⟨some ⟨w.heap.size + 1, 0, none⟩, 1, 1⟩] := by
  have h1 : ((w.alloc (.cells #[.int .i64 x] 3)).alloc (.cells #[.int .i64 x] 3)).heap.size = w.heap.size + 1 + 1 := by simp
  have h0 : (w.alloc (.cells #[.int .i64 x] 3)).heap.size = w.heap.size + 1 := by simp
  refine ⟨rfl, own_fresh _ _ 35 2 2 _ B h1 (by omega) rfl (by simp [maxLen]), fun k c v hk hv => ?_⟩
  match k, hk, hv with
  | 0, hk, hv =>
    injection hk with hk; injection hv with hv
    subst hk hv
    exact own_below (own_fresh w #[.int .i64 x] 3 1 1 _ B rfl hB rfl (by simp [maxLen])) (bnew (bnew (bnil _) _) _)
  | 1, hk, hv =>
    injection hk with hk; injection hv with hv
    subst hk hv
    exact own_below (own_fresh (w.alloc (.cells #[.int .i64 x] 3)) #[.int .i64 x] 3 1 1 _ B h0 (by omega) rfl (by simp [maxLen])) (bnew (bnil _) _)
  | k + 2, hk, hv => cases hk
/-- the threads' calls while the Frees are appended -/
def ehTi (N u i t : Nat) : List VCall := if t = u then [⟨0, [(u : Int)]⟩, ⟨1, [(u : Int)]⟩] else if t = 1 - u then [] else if t = 2 then (List.range N).map (eret N 0) else if t = 3 then List.replicate i ⟨3, []⟩ else []
theorem ehTi_zero {N u : Nat} (hu : u < 2) : upd (upd (upd (eth N (eofs N []) 10 0 N 20) u [⟨0, [(u : Int)]⟩, ⟨1, [(u : Int)]⟩]) (1 - u) []) 3 [] = ehTi N u 0 := by
  funext t
  rcases (show u = 0 ∨ u = 1 by omega) with rfl | rfl
  · unfold upd ehTi eth
    match t with
    | 0 => rfl
    | 1 => rfl
    | 2 => rfl
    | 3 => rfl
    | t + 4 => simp; intro h; omega
  · unfold upd ehTi eth
    match t with
    | 0 => rfl
    | 1 => rfl
    | 2 => rfl
    | 3 => rfl
    | t + 4 => simp; intro h; omega
theorem ehTi_app {N u i : Nat} (hu : u < 2) : upd (ehTi N u i) 3 (ehTi N u i 3 ++ [⟨3, []⟩]) = ehTi N u (i + 1) := by
  funext t
  unfold upd
  by_cases h : t = 3
  · subst h
    rw [if_pos rfl]
    unfold ehTi
    rw [if_neg (by omega), if_neg (by omega), if_neg (by decide), if_pos rfl, if_neg (by omega), if_neg (by omega), if_neg (by decide), if_pos rfl, List.replicate_succ']
  · rw [if_neg h]
    unfold ehTi
    rw [if_neg h, if_neg h]
theorem ehTi_all (N u : Nat) : ehTi N u (N + 1) = ehT N u := rfl
def ehC (N i : Nat) : List (Nat × Nat) := ((List.range N).drop i).map fun i => (3, i + 2)
def ehB (N u : Nat) : List (Nat × Nat) := (3, 1) :: (u, 2) :: ehC N 0
def ehA (N u i : Nat) : List (Nat × Nat) := ((List.range N).drop i).map (fun i => (2, i + 1)) ++ ehB N u
theorem ehPh_eq (N u : Nat) : ehPh N u = (u, 1) :: ehA N u 0 := rfl
theorem drop_range {N i : Nat} (h : i < N) : (List.range N).drop i = i :: (List.range N).drop (i + 1) := by
  rw [List.drop_eq_getElem_cons (by simpa using h), List.getElem_range]
theorem ehA_next {N i : Nat} (u : Nat) (h : i < N) : ehA N u i = (2, i + 1) :: ehA N u (i + 1) := by
  unfold ehA; rw [drop_range h]; rfl
theorem ehA_end (N u : Nat) : ehA N u N = ehB N u := by
  unfold ehA; rw [List.drop_of_length_le (by simp)]; rfl
theorem ehC_next {N i : Nat} (h : i < N) : ehC N i = (3, i + 2) :: ehC N (i + 1) := by
  unfold ehC; rw [drop_range h]; rfl
theorem ehC_end (N : Nat) : ehC N N = [] := by
  unfold ehC; rw [List.drop_of_length_le (by simp)]; rfl
theorem ehT_mem {N u j : Nat} {x : VCall} (hx : x ∈ ehT N u j) : x.code < 4 ∧ x.args.length ≤ 8 := by
  unfold ehT at hx
  split at hx
  · simp only [List.mem_cons, List.not_mem_nil, or_false] at hx
    rcases hx with rfl | rfl
    · exact ⟨Nat.le_of_ble_eq_true rfl, Nat.le_of_ble_eq_true rfl⟩
    · exact ⟨Nat.le_of_ble_eq_true rfl, Nat.le_of_ble_eq_true rfl⟩
  · split at hx
    · cases hx
    · split at hx
      · obtain ⟨i, _, rfl⟩ := List.mem_map.1 hx
        exact ⟨Nat.le_of_ble_eq_true rfl, Nat.le_of_ble_eq_true rfl⟩
      · split at hx
        · rw [List.eq_of_mem_replicate hx]
          exact ⟨Nat.le_of_ble_eq_true rfl, Nat.le_of_ble_eq_true rfl⟩
        · cases hx
theorem ehT_len {N : Nat} (u j : Nat) (h8 : N ≤ 8) : (ehT N u j).length ≤ 20 := by
  unfold ehT
  split
  · simp
  · split
    · simp
    · split
      · simp; omega
      · split
        · simp; omega
        · simp
theorem ehM_at {B : Nat} {w : World} {Cb T N u : Nat} {cv tv : Nat → Value} {av : Nat → List SV} (h : MN B w 4 4 Cb T cv (fun i => [epinCode, eunpinCode, eretireCode, efreeCode N].getD i []) tv (ehT N u) av) (h8 : N ≤ 8) : MachAt w (some ⟨Cb, 0, none⟩) 4 (some ⟨T, 0, none⟩) 4 (ehM N u) :=
  h.at_ rfl rfl (fun i hi => ecode_sh N i hi) (fun j hj => ⟨by have := ehT_len u j h8; omega, fun c hc => ehT_mem hc⟩)
set_option maxHeartbeats 8000000 in
set_option maxRecDepth 100000 in
theorem law_epochHolds (xi yi : Int) (w : World) (ha : -9223372036854775808 ≤ xi) (ha1 : xi ≤ 9223372036854775807) (hb : -9223372036854775808 ≤ yi) (hb1 : yi ≤ 9223372036854775807) (hT : STab w) :
    Calls Tryd.prog 6 #[.int .i64 xi, .int .i64 yi] w fun e w' => e = .returned (.bool true) ∧ Below w.heap.size w w' := by
  have HT := hid hT
  clear hT
  have m1 := pk_lt xi 8 (by decide)
  obtain ⟨N, hR⟩ : ∃ N : Nat, wrap64 (1 + (pk xi 8 : Int)) = (N : Int) ∧ N = 1 + pk xi 8 := ⟨1 + pk xi 8, by rw [wrap_mid (by omega) (by omega)]; omega, rfl⟩
  have h1 : 1 ≤ N := by omega
  have h8 : N ≤ 8 := by omega
  have HR := hid hR.1
  clear hR m1
  go_enter Tryd.func6, Tryd.ntmps6
  go_wp2_with fail
  refine (picked xi 8 w (by decide) ha ha1 (by decide)).mono ?_
  rintro e w' ⟨rfl, rfl⟩
  go_wp2_with fail
  try rw [HR.out]
  refine (epoch_machine0 N none 0 0 [] w h1 h8 (by decide) ⟨rfl, fun h => absurd h (by decide)⟩ (by intro x hx; cases hx) HT.out rfl).mono ?_
  rintro e w1 hp1
  obtain ⟨AW, cW, Cb, T, cv, tv0, av0, rfl, hW, hM, b1⟩ := hp1
  have HM := hid hM; have B1 := hid b1; have HW := hid hW
  clear hM b1 hW
  obtain ⟨X, hX⟩ : ∃ X, w1.heap.size = X := ⟨_, rfl⟩
  go_upto_region 3 with fail
  have HWL := hid (show (List.replicate (N + 5) (0 : Int)).length = N + 5 by rw [List.length_replicate])
  have BU := hid (show ABun w (w1.alloc (.cells #[.slice AW (N + 5) cW, .slice (some ⟨Cb, 0, none⟩) 4 4, .slice (some ⟨T, 0, none⟩) 4 4] 29)) X Cb T 4 4 (.slice AW (N + 5) cW) (List.replicate (N + 5) (0 : Int)) cv (fun i => [epinCode, eunpinCode, eretireCode, efreeCode N].getD i []) tv0 (eth N (eofs N []) 10 0 N 20) av0 from
    ⟨bgo B1.out (bnew (bnil w1) _), blkN w1 29 #[.slice AW (N + 5) cW, .slice (some ⟨Cb, 0, none⟩) 4 4, .slice (some ⟨T, 0, none⟩) 4 4] X hX, by rw [HWL.out]; exact own_below HW.out (bnew (bnil w1) _), HM.out.below (bnew (bnil w1) _)⟩)
  try rw [hX]
  generalize World.alloc w1 _ = wA at *
  clear hX HM HW B1
  go_wp2_with fail
  refine (picked yi 2 wA (by decide) hb hb1 (by decide)).mono ?_
  rintro e w' ⟨rfl, rfl⟩
  have m2 := pk_lt yi 2 (by decide)
  obtain ⟨u, hu⟩ : ∃ u : Nat, pk yi 2 = u := ⟨_, rfl⟩
  rw [hu] at m2 ⊢
  have hu2 : u < 2 := by omega
  clear hu m2 hb hb1 ha ha1 HR
  go_upto_region 6 with fail
  have x2 : wA.cell? ⟨X, 2, none⟩ = some (.slice (some ⟨T, 0, none⟩) 4 4) := BU.out.hx.cell 2
  have u0 : (0 : Int) ≤ (u : Int) := by omega
  have u4 : (u : Int) < 4 := by omega
  have c3 : ∀ o1 o2 o3 : Obj, (((wA.alloc o1).alloc o2).alloc o3).cell? ⟨T, u, none⟩ = some (tv0 u) := fun o1 o2 o3 => cell_below (bnew (bnew (bnew (bnil wA) o1) o2) o3) (by rw [BU.out.mn.tb.cell u, arrN_at tv0 (by omega)])
  have f3 : ∀ o1 o2 o3 : Obj, (((wA.alloc o1).alloc o2).alloc o3).frozen? ⟨T, u, none⟩ = false := fun o1 o2 o3 => (BU.out.mn.tb.below' (bnew (bnew (bnew (bnil wA) o1) o2) o3)).frozen u
  go_upto_region 7 with fail
  clear x2 c3 f3
  obtain ⟨wB, hwB⟩ : ∃ wB, World.setCell (((wA.alloc (.cells #[.int .i64 (u : Int)] 3)).alloc (.cells #[.int .i64 (u : Int)] 3)).alloc (.cells #[.int .i64 0, .slice (some ⟨wA.heap.size, 0, none⟩) 1 1, .int .i64 1, .slice (some ⟨wA.heap.size + 1, 0, none⟩) 1 1] 35)) ⟨T, u, none⟩ (.slice (some ⟨wA.heap.size + 1 + 1, 0, none⟩) 2 2) = wB := ⟨_, rfl⟩
  have BU1 := BU.out.put (j := u) (by omega) (bnew (bnew (bnew (bnil wA) _) _) _) (.inr ⟨wA.heap.size + 1 + 1, rfl, by omega⟩) (crow_two wA (u : Int) BU.out.below.size)
  rw [hwB] at BU1 ⊢
  clear hwB BU
  obtain ⟨tv1, htv1⟩ : ∃ tv1, upd tv0 u (.slice (some ⟨wA.heap.size + 1 + 1, 0, none⟩) 2 2) = tv1 := ⟨_, rfl⟩
  rw [htv1] at BU1
  have HB1 := hid BU1
  clear BU1 htv1
  obtain ⟨r, hr⟩ : ∃ r : Nat, 1 - u = r := ⟨_, rfl⟩
  have hri : (1 : Int) - (u : Int) = (r : Int) := by omega
  have r0 : (0 : Int) ≤ (r : Int) := by omega
  have r4 : (r : Int) < 4 := by omega
  have HRR := hid hr
  clear hr
  have x2 : wB.cell? ⟨X, 2, none⟩ = some (.slice (some ⟨T, 0, none⟩) 4 4) := HB1.out.hx.cell 2
  have c3 : wB.cell? ⟨T, r, none⟩ = some (tv1 r) := by rw [HB1.out.mn.tb.cell r, arrN_at tv1 (by omega)]
  have f3 := HB1.out.mn.tb.frozen r
  go_upto_region 8 with fail
  clear x2 c3 f3 r0 r4 hri
  obtain ⟨wC, hwC⟩ : ∃ wC, World.setCell wB ⟨T, r, none⟩ (.slice none 0 0) = wC := ⟨_, rfl⟩
  have BU2 := HB1.out.put (j := r) (by have := HRR.out; omega) (bnil wB) (v' := .slice none 0 0) (cs := []) (vs := []) (.inl rfl) (CRow.nil _ _)
  rw [hwC] at BU2 ⊢
  clear hwC HB1
  obtain ⟨tv2, htv2⟩ : ∃ tv2, upd tv1 r (.slice none 0 0) = tv2 := ⟨_, rfl⟩
  rw [htv2] at BU2
  have HB2 := hid BU2
  clear BU2 htv2
  have x2 : wC.cell? ⟨X, 2, none⟩ = some (.slice (some ⟨T, 0, none⟩) 4 4) := HB2.out.hx.cell 2
  have c3 : wC.cell? ⟨T, 3, none⟩ = some (tv2 3) := by rw [HB2.out.mn.tb.cell 3, arrN_at tv2 (by decide)]
  have f3 := HB2.out.mn.tb.frozen 3
  go_upto_region 9 with fail
  clear x2 c3 f3
  obtain ⟨wD, hwD⟩ : ∃ wD, World.setCell wC ⟨T, 3, none⟩ (.slice none 0 0) = wD := ⟨_, rfl⟩
  have BU3 := HB2.out.put (j := 3) (by decide) (bnil wC) (v' := .slice none 0 0) (cs := []) (vs := []) (.inl rfl) (CRow.nil _ _)
  rw [hwD, ← HRR.out, ehTi_zero hu2] at BU3
  rw [hwD]
  have HB3 := hid BU3
  clear BU3 hwD HB2 HRR
  go_wp2_with fail
  go_loopw [9] (fun v wx => ∃ (i : Nat) (tv : Nat → Value) (av : Nat → List SV), i ≤ N + 1 ∧ v = .int .i64 i ∧ Hid (ABun w wx X Cb T 4 4 (.slice AW (N + 5) cW) (List.replicate (N + 5) (0 : Int)) cv (fun i => [epinCode, eunpinCode, eretireCode, efreeCode N].getD i []) tv (ehTi N u i) av)) (fun v _ => N + 1 - (intOf v).toNat)
  case atStart => exact ⟨0, _, _, Nat.zero_le _, rfl, HB3⟩
  case round =>
    clear HB3
    obtain ⟨i, tv, av, hiN, rfl, HX⟩ := hrel
    by_cases hlt : i ≤ N
    · have i1 : (i : Int) ≤ (N : Int) := by omega
      have HLN := hid (show (ehTi N u i 3).length ≤ 20 by unfold ehTi; rw [if_neg (by omega), if_neg (by omega), if_neg (by decide), if_pos rfl, List.length_replicate]; omega)
      have HOF0 := hid (show ∀ (LIT : Obj) (k' : Nat) (c : VCall) (a : SV), ([⟨3, []⟩] : List VCall)[k']? = some c → ([⟨none, 0, 0⟩] : List SV)[k']? = some a → ((wr.alloc LIT).drew).ownsRow w.heap.size 3 1 a.v c.args.length (c.args.flatMap gI) from by
        intro LIT k' c a hc ha
        have hge : w.heap.size ≤ wr.heap.size := HX.out.below.size
        match k', hc, ha with
        | 0, hc, ha => injection hc with hc; injection ha with ha; subst hc ha; exact own0 _ _ _ 1
        | k + 1, hc, ha => cases hc)
      obtain ⟨Aj, cj, hAj, HR0⟩ := HX.out.row (j := 3) (by omega)
      obtain ⟨L, hL⟩ : ∃ L, ((ehTi N u i) 3).length = L := ⟨_, rfl⟩
      rw [hL] at hAj HR0
      have hL18 : L ≤ 20 := by rw [← hL]; exact HLN.out
      obtain ⟨y0, hy0⟩ : ∃ y, ((ehTi N u i) 3).zip (av 3) ++ [((⟨3, []⟩ : VCall), (⟨none, 0, 0⟩ : SV))] = y := ⟨_, rfl⟩
      have HYE0 := hid hy0
      have HYL0 := hid (show y0.length = L + 1 by rw [← hy0, List.length_append, HR0.len]; rfl)
      clear hy0
      have HR := hid HR0
      have HAJ := hid hAj
      have c2x := HR.out.c2; have c3 := HR.out.c3; have f3 := HR.out.f3; have hcj := HR.out.hcj; have hcm := HR.out.hcm
      unfold maxLen at hcm
      clear HR0 hAj hL
      have ltT := World.block_lt_of_cell? wr _ c3
      have ltX := World.block_lt_of_cell? wr _ c2x
      have ltT1 : T < wr.heap.size + 1 := Nat.lt_succ_of_lt ltT
      have ltT2 : T < wr.heap.size + 1 + 1 := Nat.lt_succ_of_lt ltT1
      have hq3 : ∀ o1 o2 o3 : Obj, (((wr.alloc o1).alloc o2).alloc o3).cell? ⟨T, 3, none⟩ = some (.slice Aj L cj) := fun o1 o2 o3 => cell_below (bnew (bnew (bnew (bnil wr) o1) o2) o3) c3
      go_upto_region 12 with fail
      refine wp_region_held_drew (S := (fun w' => w'.cell? ⟨X, 2, none⟩ = some (.slice (some ⟨T, 0, none⟩) 4 4) ∧ w'.frozen? ⟨T, 3, none⟩ = false)) (by kernel_rfl) ?_ (fun hHeld => ?_)
      · (try dsimp only); (first | assumption | exact ⟨c2x, f3⟩ | exact HZ.1 | exact HZ.2.2 _ | (refine sees2f ?_ c2x c3 f3; (repeat (first | exact bnil _ | refine Below.drew ?_ | refine bnew ?_ _))))
      refine wpAnyH_take (i := 0) (oi := ⟨some 54, _, _, _, _, _⟩) (v := ?_) rfl (by kernel_rfl) (by kernel_rfl) (by kernel_rfl) (fun _ _ _ h => h) (Or.inl ⟨by rfl, ?_⟩) (by assumption) ?_
      rotate_left
      · intro w hSw; (try dsimp only at hSw); go_simp <;> with_reducible rfl
      try simp only [Act.put, List.setIfInBounds_toArray, List.set_cons_zero, List.set_cons_succ]
      refine wpAnyH_take (i := 1) (oi := ⟨some 55, _, _, _, _, _⟩) (v := ?_) rfl (by kernel_rfl) (by kernel_rfl) (by kernel_rfl) (fun _ _ _ h => h) (Or.inl ⟨by rfl, ?_⟩) (by assumption) ?_
      rotate_left
      · intro w hSw; (try dsimp only at hSw); go_simp <;> with_reducible rfl
      try simp only [Act.put, List.setIfInBounds_toArray, List.set_cons_zero, List.set_cons_succ]
      refine wpAnyH_take (i := 2) (oi := ⟨some 56, _, _, _, _, _⟩) (v := ?_) rfl (by kernel_rfl) (by kernel_rfl) (by kernel_rfl) (fun _ _ _ h => h) (Or.inl ⟨by rfl, ?_⟩) (by assumption) ?_
      rotate_left
      · intro w hSw; (try dsimp only at hSw); go_simp <;> with_reducible rfl
      try simp only [Act.put, List.setIfInBounds_toArray, List.set_cons_zero, List.set_cons_succ]
      refine wpAnyH_take (i := 3) (oi := ⟨some 57, _, _, _, _, _⟩) (v := ?_) rfl (by kernel_rfl) (by kernel_rfl) (by kernel_rfl) (fun _ _ _ h => h) (Or.inl ⟨by rfl, ?_⟩) (by assumption) ?_
      rotate_left
      · intro w hSw; (try dsimp only at hSw); go_simp <;> with_reducible rfl
      try simp only [Act.put, List.setIfInBounds_toArray, List.set_cons_zero, List.set_cons_succ]
      refine wpAnyH_take (i := 4) (oi := ⟨some 58, _, _, _, _, _⟩) (v := ?_) rfl (by kernel_rfl) (by kernel_rfl) (by kernel_rfl) (fun _ _ _ h => h) (Or.inl ⟨by rfl, ?_⟩) (by assumption) ?_
      rotate_left
      · intro w hSw; (try dsimp only at hSw); go_simp <;> with_reducible rfl
      try simp only [Act.put, List.setIfInBounds_toArray, List.set_cons_zero, List.set_cons_succ]
      refine wpAnyH_take (i := 6) (oi := ⟨some 60, _, _, _, _, _⟩) (v := ?_) rfl (by kernel_rfl) (by kernel_rfl) (by kernel_rfl) (fun _ _ _ h => h) (Or.inl ⟨by rfl, ?_⟩) (by assumption) ?_
      rotate_left
      · intro w hSw; (try dsimp only at hSw); go_simp <;> with_reducible rfl
      try simp only [Act.put, List.setIfInBounds_toArray, List.set_cons_zero, List.set_cons_succ]
      refine wpAnyH_ready (rs := [5, 7]) (by kernel_rfl) (by simp) ?_
      refine AllReadyH.cons (o := ⟨some 59, _, _, _, _, _⟩) rfl (fun K hK => ?_) ?_
      go_simp
      refine hK.out _ _ ?_ (fun hHeld => ?_)
      · (try dsimp only); (first | assumption | exact ⟨c2x, f3⟩ | exact HZ.1 | exact HZ.2.2 _ | (refine sees2f ?_ c2x c3 f3; (repeat (first | exact bnil _ | refine Below.drew ?_ | refine bnew ?_ _))))
      clear hK K
      try simp only [Act.put, List.setIfInBounds_toArray, List.set_cons_zero, List.set_cons_succ]
      refine wpAnyH_ready (rs := [7]) (by kernel_rfl) (by simp) ?_
      refine AllReadyH.cons (o := ⟨some 61, _, _, _, _, _⟩) rfl (fun K hK => ?_) AllReadyH.nil
      go_simp
      refine hK.out _ _ ?_ (fun hHeld => ?_)
      · (try dsimp only); (first | assumption | exact ⟨c2x, f3⟩ | exact HZ.1 | exact HZ.2.2 _ | (refine sees2f ?_ c2x c3 f3; (repeat (first | exact bnil _ | refine Below.drew ?_ | refine bnew ?_ _))))
      clear hK K
      try simp only [Act.put, List.setIfInBounds_toArray, List.set_cons_zero, List.set_cons_succ]
      refine wpAnyH_ready (rs := [8]) (by kernel_rfl) (by simp) ?_
      refine AllReadyH.cons (o := ⟨some 62, _, _, _, _, _⟩) rfl (fun K hK => ?_) AllReadyH.nil
      (refine step_appC elmCN gS_one rfl (.tmp 59) (.tmp 61) rfl (.slice Aj L cj) (((ehTi N u i) 3).zip (av 3)) rfl (HR.out.row _ (bnew (bnil _) _).drew) [((⟨3, []⟩ : VCall), (⟨none, 0, 0⟩ : SV))] y0 HYE0 rfl (Sl.drew (Sl.fresh' _ #[_, _] 35 2 1 _ (by simp) rfl)) rfl (by rw [HYL0.out]; simp only [maxLen]; omega) (by rw [HYL0.out]; omega) (Nat.le_trans HR.out.size (bnew (bnil _) _).drew.size) ?_; intro E6 c6 w6 hc6 hc7 HN6 HG6 HO6; have HZ := HR.out.grow _ w6 (bnew (bnil _) _).drew HG6.out)
      refine hK.out _ _ ?_ (fun hHeld => ?_)
      · (try dsimp only); (first | assumption | exact ⟨c2x, f3⟩ | exact HZ.1 | exact HZ.2.2 _ | (refine sees2f ?_ c2x c3 f3; (repeat (first | exact bnil _ | refine Below.drew ?_ | refine bnew ?_ _))))
      clear hK K
      try simp only [Act.put, List.setIfInBounds_toArray, List.set_cons_zero, List.set_cons_succ]
      refine wpAnyH_take (i := 9) (oi := ⟨some 63, _, _, _, _, _⟩) (v := ?_) rfl (by kernel_rfl) (by kernel_rfl) (by kernel_rfl) (fun _ _ _ h => h) (Or.inl ⟨by rfl, ?_⟩) (by assumption) ?_
      rotate_left
      · intro w hSw; (try dsimp only at hSw); go_simp <;> with_reducible rfl
      try simp only [Act.put, List.setIfInBounds_toArray, List.set_cons_zero, List.set_cons_succ]
      refine wpAnyH_ready (rs := [10]) (by kernel_rfl) (by simp) ?_
      refine AllReadyH.cons (o := ⟨none, _, _, _, _, _⟩) rfl (fun K hK => ?_) AllReadyH.nil
      go_simp
      refine hK.out _ _ ?_ (fun hHeld => ?_)
      · (try dsimp only); (first | assumption | exact ⟨c2x, f3⟩ | exact HZ.1 | exact HZ.2.2 _ | (refine sees2f ?_ c2x c3 f3; (repeat (first | exact bnil _ | refine Below.drew ?_ | refine bnew ?_ _))))
      clear hK K
      try dsimp only [Act.put]
      refine wpAnyH_done (by kernel_rfl) ?_ _
      rotate_left
      refine AllReadyH.cons (o := ⟨some 61, _, _, _, _, _⟩) rfl (fun K hK => ?_) AllReadyH.nil
      go_simp
      refine hK.out _ _ ?_ (fun hHeld => ?_)
      · (try dsimp only); (first | assumption | exact ⟨c2x, f3⟩ | exact HZ.1 | exact HZ.2.2 _ | (refine sees2f ?_ c2x c3 f3; (repeat (first | exact bnil _ | refine Below.drew ?_ | refine bnew ?_ _))))
      clear hK K
      try simp only [Act.put, List.setIfInBounds_toArray, List.set_cons_zero, List.set_cons_succ]
      refine wpAnyH_ready (rs := [5]) (by kernel_rfl) (by simp) ?_
      refine AllReadyH.cons (o := ⟨some 59, _, _, _, _, _⟩) rfl (fun K hK => ?_) AllReadyH.nil
      go_simp
      refine hK.out _ _ ?_ (fun hHeld => ?_)
      · (try dsimp only); (first | assumption | exact ⟨c2x, f3⟩ | exact HZ.1 | exact HZ.2.2 _ | (refine sees2f ?_ c2x c3 f3; (repeat (first | exact bnil _ | refine Below.drew ?_ | refine bnew ?_ _))))
      clear hK K
      try simp only [Act.put, List.setIfInBounds_toArray, List.set_cons_zero, List.set_cons_succ]
      refine wpAnyH_ready (rs := [8]) (by kernel_rfl) (by simp) ?_
      refine AllReadyH.cons (o := ⟨some 62, _, _, _, _, _⟩) rfl (fun K hK => ?_) AllReadyH.nil
      (refine step_appC elmCN gS_one rfl (.tmp 59) (.tmp 61) rfl (.slice Aj L cj) (((ehTi N u i) 3).zip (av 3)) rfl (HR.out.row _ (bnew (bnil _) _).drew) [((⟨3, []⟩ : VCall), (⟨none, 0, 0⟩ : SV))] y0 HYE0 rfl (Sl.drew (Sl.fresh' _ #[_, _] 35 2 1 _ (by simp) rfl)) rfl (by rw [HYL0.out]; simp only [maxLen]; omega) (by rw [HYL0.out]; omega) (Nat.le_trans HR.out.size (bnew (bnil _) _).drew.size) ?_; intro E6 c6 w6 hc6 hc7 HN6 HG6 HO6; have HZ := HR.out.grow _ w6 (bnew (bnil _) _).drew HG6.out)
      refine hK.out _ _ ?_ (fun hHeld => ?_)
      · (try dsimp only); (first | assumption | exact ⟨c2x, f3⟩ | exact HZ.1 | exact HZ.2.2 _ | (refine sees2f ?_ c2x c3 f3; (repeat (first | exact bnil _ | refine Below.drew ?_ | refine bnew ?_ _))))
      clear hK K
      try simp only [Act.put, List.setIfInBounds_toArray, List.set_cons_zero, List.set_cons_succ]
      refine wpAnyH_take (i := 9) (oi := ⟨some 63, _, _, _, _, _⟩) (v := ?_) rfl (by kernel_rfl) (by kernel_rfl) (by kernel_rfl) (fun _ _ _ h => h) (Or.inl ⟨by rfl, ?_⟩) (by assumption) ?_
      rotate_left
      · intro w hSw; (try dsimp only at hSw); go_simp <;> with_reducible rfl
      try simp only [Act.put, List.setIfInBounds_toArray, List.set_cons_zero, List.set_cons_succ]
      refine wpAnyH_ready (rs := [10]) (by kernel_rfl) (by simp) ?_
      refine AllReadyH.cons (o := ⟨none, _, _, _, _, _⟩) rfl (fun K hK => ?_) AllReadyH.nil
      go_simp
      refine hK.out _ _ ?_ (fun hHeld => ?_)
      · (try dsimp only); (first | assumption | exact ⟨c2x, f3⟩ | exact HZ.1 | exact HZ.2.2 _ | (refine sees2f ?_ c2x c3 f3; (repeat (first | exact bnil _ | refine Below.drew ?_ | refine bnew ?_ _))))
      clear hK K
      try dsimp only [Act.put]
      refine wpAnyH_done (by kernel_rfl) ?_ _
      rotate_left
      all_goals
        have HF := hid (HX.out.app (j := 3) (by omega) [⟨3, []⟩] [⟨none, 0, 0⟩] (bnew (bnil _) _).drew rfl (HOF0.out _) HYE0.out (by rw [HAJ.out]; exact HG6.out) (by rw [HAJ.out]; exact HO6.out) HN6.out)
        clear HZ HG6 HO6 HN6
        go_wp2_with fail
        go_roundw
        case rel => exact ⟨i + 1, _, _, by omega, by go_num, hid (by have h1 := HF.out; rw [ehTi_app hu2] at h1; exact h1)⟩
        case measure => simp [intOf]; omega
    · obtain rfl : i = N + 1 := by omega
      have i1 : ¬ ((N + 1 : Nat) : Int) ≤ (N : Int) := by omega
      rw [ehTi_all] at HX
      have hmf : ∀ (fn : Fn) (first cap : Array Value) (w : World), (Instr.makeFunc fn first cap).run Tryd.prog w = .ok (.func fn first cap) w := fun _ _ _ _ => rfl
      obtain ⟨W1, hW1⟩ : ∃ W1, W1 = wr := ⟨_, rfl⟩
      subst hW1
      obtain ⟨S, hS⟩ : ∃ S, W1.heap.size = S := ⟨_, rfl⟩
      obtain ⟨lE, hPh, e1, e2, e3, e4⟩ := epoch_holds h1 h8 hu2
      have HEE := hid (HE.mk e1 e2 e3)
      have H3 := hid e4
      have HTR := hid (HT.out.below HX.out.below)
      have HMA := hid (ehM_at HX.out.mn h8)
      have HXB := hid HX.out.hx
      have HWR := hid (show Sl W1 1 AW (N + 5) (ints (ehM N u).words) from by have h := HX.out.own; rw [HWL.out] at h; exact Sl.own h)
      have BR := hid HX.out.below
      have HQ0 := hid (show HQ (ehM N u) W1 (W1.alloc (.cells #[.slice none 0 0] 25)) S lE ((u, 1) :: ehA N u 0) from ⟨none, 0, [], ⟨bnew (bnil W1) _, by omega, blkN W1 25 _ S hS, World.ownsRow_nil _ _ _ _⟩, by rw [← ehPh_eq]; exact hPh, by intro x hx; cases hx⟩)
      clear HX e1 e2 e3 e4 hPh
      go_wp2_with fail
      refine (steps_q (ehM N u) (N + 5) u 1 X S Cb T cW AW lE (ehA N u 0) W1 _ (by omega) (by decide) (by omega) HXB.out HMA.out HWR.out HTR.out HEE.out HQ0.out).mono ?_
      rintro e w2 ⟨rfl, hq⟩
      have HQ1 := hid hq
      clear hq HQ0
      go_wp2_with fail
      go_loopw [12] (fun v wx => ∃ i : Nat, i ≤ N ∧ v = .int .i64 i ∧ Hid (HQ (ehM N u) W1 wx S lE (ehA N u i))) (fun v _ => N - (intOf v).toNat)
      case atStart => exact ⟨0, Nat.zero_le _, rfl, HQ1⟩
      case round =>
        clear HQ1
        obtain ⟨i, hiN, rfl, HQ1⟩ := hrel
        by_cases hlt2 : i < N
        · have j1 : (i : Int) < (N : Int) := by omega
          have HQ2 := hid (show HQ (ehM N u) W1 wr S lE ((2, i + 1) :: ehA N u (i + 1)) by rw [← ehA_next u hlt2]; exact HQ1.out)
          clear HQ1
          go_wp2_with fail
          refine (steps_q (ehM N u) (N + 5) 2 (i + 1) X S Cb T cW AW lE (ehA N u (i + 1)) W1 _ (by omega) (by omega) (by decide) HXB.out HMA.out HWR.out HTR.out HEE.out HQ2.out).mono ?_
          rintro e w3 ⟨rfl, hq⟩
          have HQ3 := hid hq
          clear hq HQ2
          go_wp2_with fail
          go_roundw
          case rel => exact ⟨i + 1, by omega, by go_num, HQ3⟩
          case measure => simp [intOf]; omega
        · obtain rfl : N = i := by omega
          have j1 : ¬ (N : Int) < (N : Int) := by omega
          have HQ2 := hid (show HQ (ehM N u) W1 wr S lE ((3, 1) :: (u, 2) :: ehC N 0) by have h := HQ1.out; rw [ehA_end] at h; exact h)
          clear HQ1
          go_wp2_with fail
          refine (steps_q (ehM N u) (N + 5) 3 1 X S Cb T cW AW lE ((u, 2) :: ehC N 0) W1 _ (by omega) (by decide) (by decide) HXB.out HMA.out HWR.out HTR.out HEE.out HQ2.out).mono ?_
          rintro e w3 ⟨rfl, hq⟩
          have HQ3 := hid hq
          clear hq HQ2
          go_wp2_with fail
          refine (steps_q (ehM N u) (N + 5) u 2 X S Cb T cW AW lE (ehC N 0) W1 _ (by omega) (by decide) (by omega) HXB.out HMA.out HWR.out HTR.out HEE.out HQ3.out).mono ?_
          rintro e w4 ⟨rfl, hq⟩
          have HQ4 := hid hq
          clear hq HQ3
          go_wp2_with fail
          go_loopw [13] (fun v wx => ∃ i : Nat, i ≤ N ∧ v = .int .i64 i ∧ Hid (HQ (ehM N u) W1 wx S lE (ehC N i))) (fun v _ => N - (intOf v).toNat)
          case atStart => exact ⟨0, Nat.zero_le _, rfl, HQ4⟩
          case round =>
            clear HQ4
            obtain ⟨i, hiN, rfl, HQ4⟩ := hrel
            by_cases hlt3 : i < N
            · have j1 : (i : Int) < (N : Int) := by omega
              have HQ5 := hid (show HQ (ehM N u) W1 wr S lE ((3, i + 2) :: ehC N (i + 1)) by rw [← ehC_next hlt3]; exact HQ4.out)
              clear HQ4
              go_wp2_with fail
              refine (steps_q (ehM N u) (N + 5) 3 (i + 2) X S Cb T cW AW lE (ehC N (i + 1)) W1 _ (by omega) (by omega) (by decide) HXB.out HMA.out HWR.out HTR.out HEE.out HQ5.out).mono ?_
              rintro e w5 ⟨rfl, hq⟩
              have HQ6 := hid hq
              clear hq HQ5
              go_wp2_with fail
              go_roundw
              case rel => exact ⟨i + 1, by omega, by go_num, HQ6⟩
              case measure => simp [intOf]; omega
            · obtain rfl : N = i := by omega
              have j1 : ¬ (N : Int) < (N : Int) := by omega
              obtain ⟨As, cS, l, hs, hp, hl4⟩ := HQ4.out
              rw [ehC_end] at hp
              obtain rfl : l = lE := by cases hp; rfl
              have HS1 := hid hs; have HL4 := hid hl4
              clear HQ4 hs hp hl4
              obtain ⟨n, hn⟩ : ∃ n, l.length = n := ⟨_, rfl⟩
              have y0 : wr.cell? ⟨X, 0, none⟩ = some (.slice AW (N + 5) cW) := (HXB.out.below' HS1.out.below).cell 0
              have y1 : wr.cell? ⟨X, 1, none⟩ = some (.slice (some ⟨Cb, 0, none⟩) 4 4) := (HXB.out.below' HS1.out.below).cell 1
              have y2 : wr.cell? ⟨X, 2, none⟩ = some (.slice (some ⟨T, 0, none⟩) 4 4) := (HXB.out.below' HS1.out.below).cell 2
              have s0 : wr.cell? ⟨S, 0, none⟩ = some (.slice As n cS) := by have := HS1.out.blk.cell 0; rw [hn] at this; exact this
              have hnc : n ≤ cS := by obtain ⟨_, _, e, h1, _⟩ := own_form HS1.out.row; injection e with e1 e2 e3; rw [List.length_map, hn] at h1; omega
              have HSL := hid (show Sl wr 1 As n (ints (l.map fun x : Nat => (x : Int))) from by have h := HS1.out.row; rw [List.length_map, hn] at h; exact Sl.own h)
              have hn3 : n ≤ 3000 := by rw [← hn]; exact HEE.out.len
              clear hn
              go_wp2_with fail
              refine (ran_of AW (some ⟨Cb, 0, none⟩) (some ⟨T, 0, none⟩) As (N + 5) cW 4 4 4 4 n cS (ehM N u) l wr (by omega) (by decide) (by decide) (by omega) hnc (HTR.out.below HS1.out.below) (HMA.out.below HS1.out.below) (HWR.out.below HS1.out.below) HSL.out HL4.out HEE.out.err (play_fin _ _)).mono ?_
              rintro e' w5 ⟨v3, rs, rfl, hrow, hrs, htold, b5⟩
              obtain ⟨A3, c3, rfl, hc3, hc3'⟩ := own_form hrow
              obtain ⟨L, hL⟩ : ∃ L, rs.length = L := ⟨_, rfl⟩
              rw [hL] at hrow hc3 ⊢
              have HD := hid (DsAt.mk hL hrow htold)
              have HRS := hid hrs
              have hL1 : L ≤ 1000 := by rw [← hL]; have := congrArg List.length hrs; rw [List.length_map] at this; rw [this]; exact HEE.out.few
              have HRL := hid (show (doings (play (ehM N u) l).evs).length = L by rw [← hrs, List.length_map, hL])
              have B5 := hid (bgo (bgo BR.out HS1.out.below) b5)
              clear hrow htold hrs hL b5 y0 y1 y2 s0 HS1 HSL hc3 hc3'
              go_wp2_with fail
              go_loopw [16, 17] (fun u' v wx => ∃ (i k : Nat), i ≤ L ∧ v = .int .i64 i ∧ u' = .int .i64 k ∧ k ≤ i ∧ Hid (eh3 N k ((doings (play (ehM N u) l).evs).drop i) = true) ∧ wx = w5) (fun _ v _ => L - (intOf v).toNat)
              case atStart => exact ⟨0, 0, Nat.zero_le _, rfl, rfl, Nat.le_refl _, by rw [List.drop_zero]; exact H3, rfl⟩
              case round =>
                clear H3
                obtain ⟨i, k, hiL, rfl, rfl, hki, H3, rfl⟩ := hrel
                by_cases hli : i < L
                · have k1 : (i : Int) < (L : Int) := by omega
                  obtain ⟨b9, d, Ad, cd, rfl, hd, -, -, -, p2, -, p4, ut⟩ := HD.out.at_ (i := i) hli
                  rw [HRS.out] at hd
                  have hdr : (doings (play (ehM N u) l).evs).drop i = d :: (doings (play (ehM N u) l).evs).drop (i + 1) := by
                    obtain ⟨hl, he⟩ := List.getElem?_eq_some_iff.1 hd
                    rw [List.drop_eq_getElem_cons hl, he]
                  have h3 := H3.out
                  rw [hdr] at h3
                  obtain ⟨dt, hdt⟩ : ∃ dt : Nat, d.t = dt := ⟨_, rfl⟩
                  rw [hdt] at p2
                  unfold eh3 at h3
                  rw [hdt] at h3
                  clear hd hdr H3
                  by_cases ht3 : dt = 3
                  · have q1 : ((dt : Int) == 3) = true := by rw [ht3]; rfl
                    rw [if_pos (by rw [ht3]; rfl), Bool.and_eq_true] at h3
                    obtain ⟨h4, h5⟩ := h3
                    have H5 := hid h5
                    clear h5 ht3 hdt
                    split at h4
                    · rename_i v hv
                      obtain ⟨bt, rfl, -, ct⟩ := told_one ut hv
                      have p4b : wr.cell? ⟨b9, i * 5 + 4, none⟩ = some (.slice (some ⟨bt, 0, none⟩) 1 cd) := by rw [hv] at p4; exact p4
                      clear ut hv p4
                      by_cases hk0 : k = 0
                      · have hv1 : v = -1 := by subst hk0; by_cases h : v = -1; exact h; exact absurd h4 (by simp [h])
                        have q2 : (v == -1) = true := by rw [hv1]; rfl
                        have q3 : ((k : Int) == 0) = true := by rw [hk0]; rfl
                        clear hv1 hk0 h4
                        go_wp2_with fail
                        go_roundw
                        case rel => exact ⟨i + 1, k + 1, by omega, by go_num, by go_num, by omega, H5, trivial⟩
                        case measure => simp [intOf]; omega
                      · have hv1 : v ≠ -1 := by intro h; exact absurd h4 (by simp [h, hk0])
                        have q2 : (v == -1) = false := beqF hv1
                        have q3 : ((k : Int) == 0) = false := beqF (by omega)
                        clear hv1 hk0 h4
                        go_wp2_with fail
                        go_roundw
                        case rel => exact ⟨i + 1, k + 1, by omega, by go_num, by go_num, by omega, H5, trivial⟩
                        case measure => simp [intOf]; omega
                    · cases h4
                  · have q1 : ((dt : Int) == 3) = false := beqF (by omega)
                    rw [if_neg (by intro h; exact ht3 (eq_of_beq h))] at h3
                    have H5 := hid h3
                    clear h3 ht3 hdt ut p4
                    go_wp2_with fail
                    go_roundw
                    case rel => exact ⟨i + 1, k, by omega, by go_num, rfl, by omega, H5, trivial⟩
                    case measure => simp [intOf]; omega
                · obtain rfl : L = i := by omega
                  have k1 : ¬ (L : Int) < (L : Int) := by omega
                  have hk : k = N + 1 := by have h := H3.out; rw [List.drop_of_length_le (by rw [HRL.out]; exact Nat.le_refl _)] at h; unfold eh3 at h; exact eq_of_beq h
                  have q1 : ((k : Int) == (N : Int) + 1) = true := by rw [hk]; exact beq_self_eq_true _
                  clear hk
                  go_wp2_with fail
                  go_ret
                  exact ⟨rfl, B5.out⟩
end Go.Proofs.YtabmkjokeeakdaaDoor
