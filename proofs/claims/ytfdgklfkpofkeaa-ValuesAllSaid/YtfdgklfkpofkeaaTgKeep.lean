/-
  barographkeep.markKey, markValue, MatchOf: their walks.
-/
import Derived.Test.YtfdgklfkpofkeaaTgSel
import Derived.Laws.Rows
namespace Go.Proofs.Ytfdgklfkpofkeaa
open Go.RowKit Go.Maps
set_option linter.unusedVariables false

set_option maxRecDepth 100000 in
set_option maxHeartbeats 2000000 in
theorem mark_key (a : Int) (k : Nat) (w : World) (hk : pk a 3 = k) (h0 : -9223372036854775808 ≤ a) (h1 : a ≤ 9223372036854775807) : Calls Try.prog 19 #[.int .i64 a] w fun e w' => e = .returned (.string (kS k)) ∧ Below w.heap.size w w' := by
  have HK := hid (show (pk a 3 : Int) = (k : Int) by rw [hk])
  have hk3 : k = 0 ∨ k = 1 ∨ k = 2 := by have := pk_lt a 3 (by decide); omega
  have BX := hid (Blk.new w 9 #[.string ⟨#[97]⟩, .string ⟨#[98]⟩, .string ⟨#[99, 48]⟩])
  have ZX := hid (bnew (bnil w) (.cells #[.string ⟨#[97]⟩, .string ⟨#[98]⟩, .string ⟨#[99, 48]⟩] 9))
  clear hk
  go_enter Try.func19, Try.ntmps19
  go_wp2_with fail
  refine (picked a 3 _ (by omega) h0 h1 (by omega)).mono ?_
  rintro e w1 ⟨rfl, rfl⟩
  rw [HK.out]
  rcases hk3 with rfl | rfl | rfl
  all_goals
    go_wp2_with fail
    go_ret
    exact ⟨rfl, ZX.out⟩
set_option maxRecDepth 100000 in
set_option maxHeartbeats 2000000 in
theorem mark_value (a : Int) (k : Nat) (w : World) (hk : pk a 3 + 1 = k) (h0 : -9223372036854775808 ≤ a) (h1 : a ≤ 9223372036854775807) : Calls Try.prog 25 #[.int .i64 a] w fun e w' => e = .returned (.string (vS k)) ∧ Below w.heap.size w w' := by
  obtain ⟨j, hj⟩ : ∃ j, pk a 3 = j := ⟨_, rfl⟩
  have HK := hid (show (pk a 3 : Int) = (j : Int) by rw [hj])
  have hk3 : j = 0 ∨ j = 1 ∨ j = 2 := by have := pk_lt a 3 (by decide); omega
  have ZX := hid (bnew (bnil w) (.cells #[.string ⟨#[120]⟩, .string ⟨#[121]⟩, .string ⟨#[122, 57]⟩] 9))
  rw [hj] at hk
  subst hk
  clear hj
  go_enter Try.func25, Try.ntmps25
  go_wp2_with fail
  refine (picked a 3 _ (by omega) h0 h1 (by omega)).mono ?_
  rintro e w1 ⟨rfl, rfl⟩
  rw [HK.out]
  rcases hk3 with rfl | rfl | rfl
  all_goals
    go_wp2_with fail
    go_ret
    exact ⟨rfl, ZX.out⟩
/-- what a matcher is made of -/
structure VMark where
  kind : Int
  key : Int
  value : Int
def VMark.ok (m : VMark) : Prop := (-9223372036854775808 ≤ m.kind ∧ m.kind ≤ 9223372036854775807) ∧ (-9223372036854775808 ≤ m.key ∧ m.key ≤ 9223372036854775807) ∧ (-9223372036854775808 ≤ m.value ∧ m.value ≤ 9223372036854775807)
def matchOf (m : VMark) : VMatch := ⟨1 + pk m.kind 4, (pk m.key 3, if 1 + pk m.kind 4 < 3 then pk m.value 3 + 1 else 0)⟩
theorem matchOf_ok (m : VMark) : MOk (matchOf m) := by
  have h1 := pk_lt m.kind 4 (by decide)
  have h2 := pk_lt m.key 3 (by decide)
  have h3 := pk_lt m.value 3 (by decide)
  refine ⟨show 1 ≤ 1 + pk m.kind 4 by omega, show 1 + pk m.kind 4 ≤ 4 by omega, ⟨show pk m.key 3 < 3 by omega, ?_⟩, ?_, ?_⟩
  · show (if 1 + pk m.kind 4 < 3 then pk m.value 3 + 1 else 0) < 4; split <;> omega
  · intro h
    have h : 1 + pk m.kind 4 ≤ 2 := h
    show (if 1 + pk m.kind 4 < 3 then pk m.value 3 + 1 else 0) ≠ 0
    rw [if_pos (by omega)]; omega
  · intro h
    have h : 3 ≤ 1 + pk m.kind 4 := h
    show (if 1 + pk m.kind 4 < 3 then pk m.value 3 + 1 else 0) = 0
    rw [if_neg (by omega)]
set_option maxRecDepth 100000 in
set_option maxHeartbeats 8000000 in
theorem match_of (m : VMark) (w : World) (h : m.ok) : Calls Try.prog 16 #[.agg #[.int .i64 m.kind, .int .i64 m.key, .int .i64 m.value]] w fun e w' => e = .returned (.agg #[.int .i64 ((matchOf m).kd : Int), .string (kS (matchOf m).t.1), .string (vS (matchOf m).t.2)]) ∧ Below w.heap.size w w' := by
  have HOK := hid h
  obtain ⟨q, hq⟩ : ∃ q, pk m.kind 4 = q := ⟨_, rfl⟩
  have hq4 : q < 4 := by have := pk_lt m.kind 4 (by decide); omega
  have HQK := hid (show (pk m.kind 4 : Int) = (q : Int) by rw [hq])
  have HMO := hid (show matchOf m = ⟨1 + q, (pk m.key 3, if 1 + q < 3 then pk m.value 3 + 1 else 0)⟩ from by unfold matchOf; rw [hq])
  clear h hq
  obtain ⟨W0, hW0⟩ : ∃ W0, (w.alloc (.cells #[.int .i64 m.kind, .int .i64 m.key, .int .i64 m.value] 48)).alloc (.cells #[.int .i64 0, .string ⟨#[]⟩, .string ⟨#[]⟩] 45) = W0 := ⟨_, rfl⟩
  obtain ⟨X, hX⟩ : ∃ X, w.heap.size = X := ⟨_, rfl⟩
  have BX := hid (show Blk W0 X 48 #[.int .i64 m.kind, .int .i64 m.key, .int .i64 m.value] by rw [← hW0, ← hX]; exact (Blk.new w _ _).alloc _)
  have BR := hid (show Blk W0 (X + 1) 45 #[.int .i64 0, .string ⟨#[]⟩, .string ⟨#[]⟩] by
    rw [← hW0, ← hX]
    have := Blk.new (w.alloc (.cells #[.int .i64 m.kind, .int .i64 m.key, .int .i64 m.value] 48)) 45 #[.int .i64 0, .string ⟨#[]⟩, .string ⟨#[]⟩]
    rwa [show (w.alloc (.cells #[.int .i64 m.kind, .int .i64 m.key, .int .i64 m.value] 48)).heap.size = w.heap.size + 1 by simp] at this)
  have Z0 := hid (show Below w.heap.size w W0 by rw [← hW0]; exact bnew (bnew (bnil w) _) _)
  have HW0 := hid hW0
  have HXX := hid hX
  have HS1 := hid (fun w' (hb : Below W0.heap.size W0 w') => show w'.cell? ⟨X, 0, none⟩ = some (.int .i64 m.kind) ∧ w'.cell? ⟨X, 1, none⟩ = some (.int .i64 m.key) from ⟨(BX.out.below' hb).cell 0, (BX.out.below' hb).cell 1⟩)
  clear hW0 hX
  go_enter Try.func16, Try.ntmps16
  go_upto_region 1 with fail
  rw [HW0.out]
  simp only [HXX.out]
  refine wp_region_held_drew (S := (fun w' => w'.cell? ⟨X, 0, none⟩ = some (.int .i64 m.kind) ∧ w'.cell? ⟨X, 1, none⟩ = some (.int .i64 m.key))) (by kernel_rfl) ?_ (fun hHeld => ?_)
  · (try dsimp only); first | assumption | exact HS1.out _ (bnil _).drew | exact HS1.out _ (bnew (bnil _) _).drew | exact HS1.out _ (bnew (bnil _).drew _) | exact HS1.out _ Z5.out | exact HS1.out _ (bnew Z5.out _) | exact HS1.out _ (((Z5.out.setCell (p := ⟨W0.heap.size, _, none⟩) (Nat.le_refl _) _).setCell (p := ⟨W0.heap.size, _, none⟩) (Nat.le_refl _) _).setCell (p := ⟨W0.heap.size, _, none⟩) (Nat.le_refl _) _)
  refine wpAnyH_take (i := 0) (oi := ⟨some 4, _, _, _, _, _⟩) (v := ?_) rfl (by kernel_rfl) (by kernel_rfl) (by kernel_rfl) (fun _ _ _ h => h) (Or.inl ⟨by rfl, ?_⟩) (by assumption) ?_
  rotate_left
  · intro w hSw; (try dsimp only at hSw); go_simp <;> with_reducible rfl
  try simp only [Act.put, List.setIfInBounds_toArray, List.set_cons_zero, List.set_cons_succ]
  refine wpAnyH_take (i := 1) (oi := ⟨some 5, _, _, _, _, _⟩) (v := ?_) rfl (by kernel_rfl) (by kernel_rfl) (by kernel_rfl) (fun _ _ _ h => h) (Or.inl ⟨by rfl, ?_⟩) (by assumption) ?_
  rotate_left
  · intro w hSw; (try dsimp only at hSw); go_simp <;> with_reducible rfl
  try simp only [Act.put, List.setIfInBounds_toArray, List.set_cons_zero, List.set_cons_succ]
  refine wpAnyH_take (i := 4) (oi := ⟨some 8, _, _, _, _, _⟩) (v := ?_) rfl (by kernel_rfl) (by kernel_rfl) (by kernel_rfl) (fun _ _ _ h => h) (Or.inl ⟨by rfl, ?_⟩) (by assumption) ?_
  rotate_left
  · intro w hSw; (try dsimp only at hSw); go_simp <;> with_reducible rfl
  try simp only [Act.put, List.setIfInBounds_toArray, List.set_cons_zero, List.set_cons_succ]
  refine wpAnyH_take (i := 5) (oi := ⟨some 9, _, _, _, _, _⟩) (v := ?_) rfl (by kernel_rfl) (by kernel_rfl) (by kernel_rfl) (fun _ _ _ h => h) (Or.inl ⟨by rfl, ?_⟩) (by assumption) ?_
  rotate_left
  · intro w hSw; (try dsimp only at hSw); go_simp <;> with_reducible rfl
  try simp only [Act.put, List.setIfInBounds_toArray, List.set_cons_zero, List.set_cons_succ]
  refine wpAnyH_ready (rs := [2, 9]) (by kernel_rfl) (by simp) ?_
  refine AllReadyH.cons (o := ⟨some 6, _, _, _, _, _⟩) rfl (fun K hK => ?_) ?_
  go_simp
  (refine (picked m.kind 4 _ (by omega) HOK.out.1.1 HOK.out.1.2 (by omega)).mono ?_; rintro e w4 ⟨rfl, rfl⟩; rw [HQK.out])
  focus go_wp2_with fail
  refine hK.out _ _ ?_ (fun hHeld => ?_)
  · (try dsimp only); first | assumption | exact HS1.out _ (bnil _).drew | exact HS1.out _ (bnew (bnil _) _).drew | exact HS1.out _ (bnew (bnil _).drew _) | exact HS1.out _ Z5.out | exact HS1.out _ (bnew Z5.out _) | exact HS1.out _ (((Z5.out.setCell (p := ⟨W0.heap.size, _, none⟩) (Nat.le_refl _) _).setCell (p := ⟨W0.heap.size, _, none⟩) (Nat.le_refl _) _).setCell (p := ⟨W0.heap.size, _, none⟩) (Nat.le_refl _) _)
  clear hK K
  try simp only [Act.put, List.setIfInBounds_toArray, List.set_cons_zero, List.set_cons_succ]
  refine wpAnyH_take (i := 3) (oi := ⟨some 7, _, _, _, _, _⟩) (v := ?_) rfl (by kernel_rfl) (by kernel_rfl) (by kernel_rfl) (fun _ _ _ h => h) (Or.inl ⟨by rfl, ?_⟩) (by assumption) ?_
  rotate_left
  · intro w hSw; (try dsimp only at hSw); go_simp <;> with_reducible rfl
  try simp only [Act.put, List.setIfInBounds_toArray, List.set_cons_zero, List.set_cons_succ]
  refine wpAnyH_ready (rs := [6, 9]) (by kernel_rfl) (by simp) ?_
  refine AllReadyH.cons (o := ⟨some 10, _, _, _, _, _⟩) rfl (fun K hK => ?_) ?_
  go_simp
  (refine (mark_key m.key (pk m.key 3) _ rfl HOK.out.2.1.1 HOK.out.2.1.2).mono ?_; rintro e w5 ⟨rfl, z5⟩; first | (have Z5 := hid (show Below W0.heap.size W0 w5 from bgo (bnew (bnil _) _).drew z5); have BG := hid ((show Blk (W0.alloc (.cells #[.int .i64 0, .string ⟨#[]⟩, .string ⟨#[]⟩] 45)).drew W0.heap.size 45 #[.int .i64 0, .string ⟨#[]⟩, .string ⟨#[]⟩] from Blk.new _ _ _).below' z5); have g0c := BG.out.cell 0; have g1c := BG.out.cell 1; have g2c := BG.out.cell 2; have g0 := BG.out.frozen 0; have g1 := BG.out.frozen 1; have g2 := BG.out.frozen 2) | (have Z5 := hid (show Below W0.heap.size W0 w5 from bgo (bnil _).drew z5)); clear z5)
  focus go_wp2_with fail
  refine hK.out _ _ ?_ (fun hHeld => ?_)
  · (try dsimp only); first | assumption | exact HS1.out _ (bnil _).drew | exact HS1.out _ (bnew (bnil _) _).drew | exact HS1.out _ (bnew (bnil _).drew _) | exact HS1.out _ Z5.out | exact HS1.out _ (bnew Z5.out _) | exact HS1.out _ (((Z5.out.setCell (p := ⟨W0.heap.size, _, none⟩) (Nat.le_refl _) _).setCell (p := ⟨W0.heap.size, _, none⟩) (Nat.le_refl _) _).setCell (p := ⟨W0.heap.size, _, none⟩) (Nat.le_refl _) _)
  clear hK K
  try simp only [Act.put, List.setIfInBounds_toArray, List.set_cons_zero, List.set_cons_succ]
  refine wpAnyH_take (i := 7) (oi := ⟨some 11, _, _, _, _, _⟩) (v := ?_) rfl (by kernel_rfl) (by kernel_rfl) (by kernel_rfl) (fun _ _ _ h => h) (Or.inl ⟨by rfl, ?_⟩) (by assumption) ?_
  rotate_left
  · intro w hSw; (try dsimp only at hSw); go_simp <;> with_reducible rfl
  try simp only [Act.put, List.setIfInBounds_toArray, List.set_cons_zero, List.set_cons_succ]
  refine wpAnyH_take (i := 8) (oi := ⟨some 12, _, _, _, _, _⟩) (v := ?_) rfl (by kernel_rfl) (by kernel_rfl) (by kernel_rfl) (fun _ _ _ h => h) (Or.inl ⟨by rfl, ?_⟩) (by assumption) ?_
  rotate_left
  · intro w hSw; (try dsimp only at hSw); go_simp <;> with_reducible rfl
  try simp only [Act.put, List.setIfInBounds_toArray, List.set_cons_zero, List.set_cons_succ]
  refine wpAnyH_ready (rs := [9]) (by kernel_rfl) (by simp) ?_
  refine AllReadyH.cons (o := ⟨some 3, _, _, _, _, _⟩) rfl (fun K hK => ?_) AllReadyH.nil
  go_simp
  refine hK.out _ _ ?_ (fun hHeld => ?_)
  · (try dsimp only); first | assumption | exact HS1.out _ (bnil _).drew | exact HS1.out _ (bnew (bnil _) _).drew | exact HS1.out _ (bnew (bnil _).drew _) | exact HS1.out _ Z5.out | exact HS1.out _ (bnew Z5.out _) | exact HS1.out _ (((Z5.out.setCell (p := ⟨W0.heap.size, _, none⟩) (Nat.le_refl _) _).setCell (p := ⟨W0.heap.size, _, none⟩) (Nat.le_refl _) _).setCell (p := ⟨W0.heap.size, _, none⟩) (Nat.le_refl _) _)
  clear hK K
  try simp only [Act.put, List.setIfInBounds_toArray, List.set_cons_zero, List.set_cons_succ]
  refine wpAnyH_ready (rs := [10]) (by kernel_rfl) (by simp) ?_
  refine AllReadyH.cons (o := ⟨none, _, _, _, _, _⟩) rfl (fun K hK => ?_) AllReadyH.nil
  go_simp
  refine hK.out _ _ ?_ (fun hHeld => ?_)
  · (try dsimp only); first | assumption | exact HS1.out _ (bnil _).drew | exact HS1.out _ (bnew (bnil _) _).drew | exact HS1.out _ (bnew (bnil _).drew _) | exact HS1.out _ Z5.out | exact HS1.out _ (bnew Z5.out _) | exact HS1.out _ (((Z5.out.setCell (p := ⟨W0.heap.size, _, none⟩) (Nat.le_refl _) _).setCell (p := ⟨W0.heap.size, _, none⟩) (Nat.le_refl _) _).setCell (p := ⟨W0.heap.size, _, none⟩) (Nat.le_refl _) _)
  clear hK K
  try dsimp only [Act.put]
  refine wpAnyH_done (by kernel_rfl) ?_ _
  rotate_left
  refine AllReadyH.cons (o := ⟨some 3, _, _, _, _, _⟩) rfl (fun K hK => ?_) AllReadyH.nil
  go_simp
  refine hK.out _ _ ?_ (fun hHeld => ?_)
  · (try dsimp only); first | assumption | exact HS1.out _ (bnil _).drew | exact HS1.out _ (bnew (bnil _) _).drew | exact HS1.out _ (bnew (bnil _).drew _) | exact HS1.out _ Z5.out | exact HS1.out _ (bnew Z5.out _) | exact HS1.out _ (((Z5.out.setCell (p := ⟨W0.heap.size, _, none⟩) (Nat.le_refl _) _).setCell (p := ⟨W0.heap.size, _, none⟩) (Nat.le_refl _) _).setCell (p := ⟨W0.heap.size, _, none⟩) (Nat.le_refl _) _)
  clear hK K
  try simp only [Act.put, List.setIfInBounds_toArray, List.set_cons_zero, List.set_cons_succ]
  refine wpAnyH_ready (rs := [6]) (by kernel_rfl) (by simp) ?_
  refine AllReadyH.cons (o := ⟨some 10, _, _, _, _, _⟩) rfl (fun K hK => ?_) AllReadyH.nil
  go_simp
  (refine (mark_key m.key (pk m.key 3) _ rfl HOK.out.2.1.1 HOK.out.2.1.2).mono ?_; rintro e w5 ⟨rfl, z5⟩; first | (have Z5 := hid (show Below W0.heap.size W0 w5 from bgo (bnew (bnil _) _).drew z5); have BG := hid ((show Blk (W0.alloc (.cells #[.int .i64 0, .string ⟨#[]⟩, .string ⟨#[]⟩] 45)).drew W0.heap.size 45 #[.int .i64 0, .string ⟨#[]⟩, .string ⟨#[]⟩] from Blk.new _ _ _).below' z5); have g0c := BG.out.cell 0; have g1c := BG.out.cell 1; have g2c := BG.out.cell 2; have g0 := BG.out.frozen 0; have g1 := BG.out.frozen 1; have g2 := BG.out.frozen 2) | (have Z5 := hid (show Below W0.heap.size W0 w5 from bgo (bnil _).drew z5)); clear z5)
  focus go_wp2_with fail
  refine hK.out _ _ ?_ (fun hHeld => ?_)
  · (try dsimp only); first | assumption | exact HS1.out _ (bnil _).drew | exact HS1.out _ (bnew (bnil _) _).drew | exact HS1.out _ (bnew (bnil _).drew _) | exact HS1.out _ Z5.out | exact HS1.out _ (bnew Z5.out _) | exact HS1.out _ (((Z5.out.setCell (p := ⟨W0.heap.size, _, none⟩) (Nat.le_refl _) _).setCell (p := ⟨W0.heap.size, _, none⟩) (Nat.le_refl _) _).setCell (p := ⟨W0.heap.size, _, none⟩) (Nat.le_refl _) _)
  clear hK K
  try simp only [Act.put, List.setIfInBounds_toArray, List.set_cons_zero, List.set_cons_succ]
  refine wpAnyH_take (i := 7) (oi := ⟨some 11, _, _, _, _, _⟩) (v := ?_) rfl (by kernel_rfl) (by kernel_rfl) (by kernel_rfl) (fun _ _ _ h => h) (Or.inl ⟨by rfl, ?_⟩) (by assumption) ?_
  rotate_left
  · intro w hSw; (try dsimp only at hSw); go_simp <;> with_reducible rfl
  try simp only [Act.put, List.setIfInBounds_toArray, List.set_cons_zero, List.set_cons_succ]
  refine wpAnyH_take (i := 8) (oi := ⟨some 12, _, _, _, _, _⟩) (v := ?_) rfl (by kernel_rfl) (by kernel_rfl) (by kernel_rfl) (fun _ _ _ h => h) (Or.inl ⟨by rfl, ?_⟩) (by assumption) ?_
  rotate_left
  · intro w hSw; (try dsimp only at hSw); go_simp <;> with_reducible rfl
  try simp only [Act.put, List.setIfInBounds_toArray, List.set_cons_zero, List.set_cons_succ]
  refine wpAnyH_ready (rs := [10]) (by kernel_rfl) (by simp) ?_
  refine AllReadyH.cons (o := ⟨none, _, _, _, _, _⟩) rfl (fun K hK => ?_) AllReadyH.nil
  go_simp
  refine hK.out _ _ ?_ (fun hHeld => ?_)
  · (try dsimp only); first | assumption | exact HS1.out _ (bnil _).drew | exact HS1.out _ (bnew (bnil _) _).drew | exact HS1.out _ (bnew (bnil _).drew _) | exact HS1.out _ Z5.out | exact HS1.out _ (bnew Z5.out _) | exact HS1.out _ (((Z5.out.setCell (p := ⟨W0.heap.size, _, none⟩) (Nat.le_refl _) _).setCell (p := ⟨W0.heap.size, _, none⟩) (Nat.le_refl _) _).setCell (p := ⟨W0.heap.size, _, none⟩) (Nat.le_refl _) _)
  clear hK K
  try dsimp only [Act.put]
  refine wpAnyH_done (by kernel_rfl) ?_ _
  rotate_left
  refine AllReadyH.cons (o := ⟨some 3, _, _, _, _, _⟩) rfl (fun K hK => ?_) AllReadyH.nil
  go_simp
  refine hK.out _ _ ?_ (fun hHeld => ?_)
  · (try dsimp only); first | assumption | exact HS1.out _ (bnil _).drew | exact HS1.out _ (bnew (bnil _) _).drew | exact HS1.out _ (bnew (bnil _).drew _) | exact HS1.out _ Z5.out | exact HS1.out _ (bnew Z5.out _) | exact HS1.out _ (((Z5.out.setCell (p := ⟨W0.heap.size, _, none⟩) (Nat.le_refl _) _).setCell (p := ⟨W0.heap.size, _, none⟩) (Nat.le_refl _) _).setCell (p := ⟨W0.heap.size, _, none⟩) (Nat.le_refl _) _)
  clear hK K
  try simp only [Act.put, List.setIfInBounds_toArray, List.set_cons_zero, List.set_cons_succ]
  refine wpAnyH_ready (rs := [2]) (by kernel_rfl) (by simp) ?_
  refine AllReadyH.cons (o := ⟨some 6, _, _, _, _, _⟩) rfl (fun K hK => ?_) AllReadyH.nil
  go_simp
  (refine (picked m.kind 4 _ (by omega) HOK.out.1.1 HOK.out.1.2 (by omega)).mono ?_; rintro e w4 ⟨rfl, rfl⟩; rw [HQK.out])
  focus go_wp2_with fail
  refine hK.out _ _ ?_ (fun hHeld => ?_)
  · (try dsimp only); first | assumption | exact HS1.out _ (bnil _).drew | exact HS1.out _ (bnew (bnil _) _).drew | exact HS1.out _ (bnew (bnil _).drew _) | exact HS1.out _ Z5.out | exact HS1.out _ (bnew Z5.out _) | exact HS1.out _ (((Z5.out.setCell (p := ⟨W0.heap.size, _, none⟩) (Nat.le_refl _) _).setCell (p := ⟨W0.heap.size, _, none⟩) (Nat.le_refl _) _).setCell (p := ⟨W0.heap.size, _, none⟩) (Nat.le_refl _) _)
  clear hK K
  try simp only [Act.put, List.setIfInBounds_toArray, List.set_cons_zero, List.set_cons_succ]
  refine wpAnyH_take (i := 3) (oi := ⟨some 7, _, _, _, _, _⟩) (v := ?_) rfl (by kernel_rfl) (by kernel_rfl) (by kernel_rfl) (fun _ _ _ h => h) (Or.inl ⟨by rfl, ?_⟩) (by assumption) ?_
  rotate_left
  · intro w hSw; (try dsimp only at hSw); go_simp <;> with_reducible rfl
  try simp only [Act.put, List.setIfInBounds_toArray, List.set_cons_zero, List.set_cons_succ]
  refine wpAnyH_ready (rs := [6]) (by kernel_rfl) (by simp) ?_
  refine AllReadyH.cons (o := ⟨some 10, _, _, _, _, _⟩) rfl (fun K hK => ?_) AllReadyH.nil
  go_simp
  (refine (mark_key m.key (pk m.key 3) _ rfl HOK.out.2.1.1 HOK.out.2.1.2).mono ?_; rintro e w5 ⟨rfl, z5⟩; first | (have Z5 := hid (show Below W0.heap.size W0 w5 from bgo (bnew (bnil _) _).drew z5); have BG := hid ((show Blk (W0.alloc (.cells #[.int .i64 0, .string ⟨#[]⟩, .string ⟨#[]⟩] 45)).drew W0.heap.size 45 #[.int .i64 0, .string ⟨#[]⟩, .string ⟨#[]⟩] from Blk.new _ _ _).below' z5); have g0c := BG.out.cell 0; have g1c := BG.out.cell 1; have g2c := BG.out.cell 2; have g0 := BG.out.frozen 0; have g1 := BG.out.frozen 1; have g2 := BG.out.frozen 2) | (have Z5 := hid (show Below W0.heap.size W0 w5 from bgo (bnil _).drew z5)); clear z5)
  focus go_wp2_with fail
  refine hK.out _ _ ?_ (fun hHeld => ?_)
  · (try dsimp only); first | assumption | exact HS1.out _ (bnil _).drew | exact HS1.out _ (bnew (bnil _) _).drew | exact HS1.out _ (bnew (bnil _).drew _) | exact HS1.out _ Z5.out | exact HS1.out _ (bnew Z5.out _) | exact HS1.out _ (((Z5.out.setCell (p := ⟨W0.heap.size, _, none⟩) (Nat.le_refl _) _).setCell (p := ⟨W0.heap.size, _, none⟩) (Nat.le_refl _) _).setCell (p := ⟨W0.heap.size, _, none⟩) (Nat.le_refl _) _)
  clear hK K
  try simp only [Act.put, List.setIfInBounds_toArray, List.set_cons_zero, List.set_cons_succ]
  refine wpAnyH_take (i := 7) (oi := ⟨some 11, _, _, _, _, _⟩) (v := ?_) rfl (by kernel_rfl) (by kernel_rfl) (by kernel_rfl) (fun _ _ _ h => h) (Or.inl ⟨by rfl, ?_⟩) (by assumption) ?_
  rotate_left
  · intro w hSw; (try dsimp only at hSw); go_simp <;> with_reducible rfl
  try simp only [Act.put, List.setIfInBounds_toArray, List.set_cons_zero, List.set_cons_succ]
  refine wpAnyH_take (i := 8) (oi := ⟨some 12, _, _, _, _, _⟩) (v := ?_) rfl (by kernel_rfl) (by kernel_rfl) (by kernel_rfl) (fun _ _ _ h => h) (Or.inl ⟨by rfl, ?_⟩) (by assumption) ?_
  rotate_left
  · intro w hSw; (try dsimp only at hSw); go_simp <;> with_reducible rfl
  try simp only [Act.put, List.setIfInBounds_toArray, List.set_cons_zero, List.set_cons_succ]
  refine wpAnyH_ready (rs := [10]) (by kernel_rfl) (by simp) ?_
  refine AllReadyH.cons (o := ⟨none, _, _, _, _, _⟩) rfl (fun K hK => ?_) AllReadyH.nil
  go_simp
  refine hK.out _ _ ?_ (fun hHeld => ?_)
  · (try dsimp only); first | assumption | exact HS1.out _ (bnil _).drew | exact HS1.out _ (bnew (bnil _) _).drew | exact HS1.out _ (bnew (bnil _).drew _) | exact HS1.out _ Z5.out | exact HS1.out _ (bnew Z5.out _) | exact HS1.out _ (((Z5.out.setCell (p := ⟨W0.heap.size, _, none⟩) (Nat.le_refl _) _).setCell (p := ⟨W0.heap.size, _, none⟩) (Nat.le_refl _) _).setCell (p := ⟨W0.heap.size, _, none⟩) (Nat.le_refl _) _)
  clear hK K
  try dsimp only [Act.put]
  refine wpAnyH_done (by kernel_rfl) ?_ _
  rotate_left
  all_goals
    clear hHeld
    simp only [show IntKind.i64.wrap (1 + (q : Int)) = 1 + (q : Int) from IntWalk.i64_in _ (by omega)]
    obtain ⟨V, P, hV, hP, BV, ZV, hge⟩ : ∃ V P, w5.alloc (.cells #[.int .i64 (1 + (q : Int)), .string (kS (pk m.key 3)), .string ⟨#[]⟩] 45) = V ∧ w5.heap.size = P ∧ Blk V P 45 #[.int .i64 (1 + (q : Int)), .string (kS (pk m.key 3)), .string ⟨#[]⟩] ∧ Below W0.heap.size W0 V ∧ W0.heap.size ≤ P := ⟨_, _, rfl, rfl, Blk.new _ _ _, bnew Z5.out _, Z5.out.size⟩
    first
      | rw [hV]
        simp only [hP]
      | (clear hV hP BV ZV hge V P
         obtain ⟨V, P, hV, hP, BV, ZV, hge⟩ : ∃ V P, ((w5.setCell ⟨W0.heap.size, 0, none⟩ (.int .i64 (1 + (q : Int)))).setCell ⟨W0.heap.size, 1, none⟩ (.string (kS (pk m.key 3)))).setCell ⟨W0.heap.size, 2, none⟩ (.string ⟨#[]⟩) = V ∧ W0.heap.size = P ∧ Blk V P 45 #[.int .i64 (1 + (q : Int)), .string (kS (pk m.key 3)), .string ⟨#[]⟩] ∧ Below W0.heap.size W0 V ∧ W0.heap.size ≤ P := ⟨_, _, rfl, rfl, ((BG.out.set_ 0 _).set_ 1 _).set_ 2 _, ((Z5.out.setCell (p := ⟨W0.heap.size, _, none⟩) (Nat.le_refl _) _).setCell (p := ⟨W0.heap.size, _, none⟩) (Nat.le_refl _) _).setCell (p := ⟨W0.heap.size, _, none⟩) (Nat.le_refl _) _, Nat.le_refl _⟩
         rw [hV]
         simp only [hP])
    clear hV hP
    try clear g0c g1c g2c g0 g1 g2
    have hlt : X + 1 < W0.heap.size := BR.out.lt
    have hne : X + 1 ≠ P := by omega
    have hne' : P ≠ X + 1 := by omega
    have BXV := hid (BX.out.below' ZV)
    have BRV := hid (BR.out.below' ZV)
    have BVV := hid BV
    have ZVV := hid ZV
    clear BV ZV
    have p0 := BVV.out.cell 0
    have p1 := BVV.out.cell 1
    have p2 := BVV.out.cell 2
    have x2 := BXV.out.cell 2
    have r0 := BRV.out.cell 0
    have r1 := BRV.out.cell 1
    have r2 := BRV.out.cell 2
    have r0f := BRV.out.frozen 0
    have r1f := BRV.out.frozen 1
    have r2f := BRV.out.frozen 2
    by_cases hq3 : 1 + q < 3
    · have hi : (1 + (q : Int)) < 3 := by omega
      have hd : decide ((1 + (q : Int)) < 3) = true := decide_eq_true hi
      focus go_wp2_with fail
      refine (mark_value m.value (pk m.value 3 + 1) _ rfl HOK.out.2.2.1 HOK.out.2.2.2).mono ?_
      rintro e w6 ⟨rfl, z6⟩
      have BP := hid (BVV.out.below' z6)
      have BR6 := hid (BRV.out.below' z6)
      have y0 := BP.out.cell 0
      have y1 := BP.out.cell 1
      have y2 := BP.out.cell 2
      have y0f := BP.out.frozen 0
      have y1f := BP.out.frozen 1
      have y2f := BP.out.frozen 2
      have s0 := BR6.out.cell 0
      have s1 := BR6.out.cell 1
      have s2 := BR6.out.cell 2
      have s0f := BR6.out.frozen 0
      have s1f := BR6.out.frozen 1
      have s2f := BR6.out.frozen 2
      have hX : w.heap.size ≤ X + 1 := by have := HXX.out; omega
      have hP : w.heap.size ≤ P := by have := Z0.out.size; omega
      focus go_wp2_with fail
      (try simp only [Exit.inBlock, Exit.then])
      refine bodyPost_ret (results_cell_row (p := 2) (ty := 45) (by kernel_rfl) _ _ (X + 1) 45 _ (0, 0) _ (by kernel_rfl) ((((BR6.out.far hne _).set_ 0 _).set_ 1 _).set_ 2 _) (Option.some_get (x := Try.prog.underlying 45) (by kernel_rfl)).symm (by kernel_rfl) (by kernel_rfl)) rfl ?_
      rw [HMO.out]
      exact ⟨by simp [hq3], ((((bgo (bgo Z0.out ZVV.out) z6).setCell (p := ⟨P, _, none⟩) hP _).setCell (p := ⟨X + 1, _, none⟩) hX _).setCell (p := ⟨X + 1, _, none⟩) hX _).setCell (p := ⟨X + 1, _, none⟩) hX _⟩
    · have hi : ¬ (1 + (q : Int)) < 3 := by omega
      have hd : decide ((1 + (q : Int)) < 3) = false := decide_eq_false hi
      have hX : w.heap.size ≤ X + 1 := by have := HXX.out; omega
      focus go_wp2_with fail
      (try simp only [Exit.inBlock, Exit.then])
      refine bodyPost_ret (results_cell_row (p := 2) (ty := 45) (by kernel_rfl) _ _ (X + 1) 45 _ (0, 0) _ (by kernel_rfl) (((BRV.out.set_ 0 _).set_ 1 _).set_ 2 _) (Option.some_get (x := Try.prog.underlying 45) (by kernel_rfl)).symm (by kernel_rfl) (by kernel_rfl)) rfl ?_
      rw [HMO.out]
      exact ⟨by simp [hq3, vS], (((bgo Z0.out ZVV.out).setCell (p := ⟨X + 1, _, none⟩) hX _).setCell (p := ⟨X + 1, _, none⟩) hX _).setCell (p := ⟨X + 1, _, none⟩) hX _⟩
end Go.Proofs.Ytfdgklfkpofkeaa
