/-
  TopGuardSema: its walk. Written by gen_topguard.py.
-/
import Derived.Test.YtbcjgnigdddlkaaDoorGuardSm
import Derived.Test.YtbcjgnigdddlkaaDoorCodes2
import Derived.Test.YtbcjgnigdddlkaaDoorQStep
import Derived.Test.YtbcjgnigdddlkaaDoorGuarded
import Derived.Test.YtbcjgnigdddlkaaDoorKept
import Derived.Test.YtbcjgnigdddlkaaDoorSched
import Derived.Deep.RegionHeld
namespace Go.Proofs.YtbcjgnigdddlkaaDoor
open Go.RowKit
set_option linter.unusedVariables false

theorem cells3 {w w' : World} {p q r : Addr} {a b c : Value} (h : Below w.heap.size w w') (hp : w.cell? p = some a) (hq : w.cell? q = some b) (hr : w.cell? r = some c) : w'.cell? p = some a ∧ w'.cell? q = some b ∧ w'.cell? r = some c := ⟨cell_below h hp, cell_below h hq, cell_below h hr⟩
/-- no call's number is beyond those of its thread -/
theorem pstep_call {m : Mach} {N : Nat} (hN : ∀ calls ∈ m.threads, calls.length ≤ N) {i n : Nat} {s : PS} (h1 : ∀ p ∈ s.ths, p.next ≤ N) (h2 : ∀ e ∈ s.evs, e.call ≤ N) : (∀ p ∈ (pstep m i n s).ths, p.next ≤ N) ∧ ∀ e ∈ (pstep m i n s).evs, e.call ≤ N := by
  unfold pstep
  split
  · rename_i p calls hp hc
    have hp1 := h1 p (List.mem_of_getElem? hp)
    have hc1 := hN calls (List.mem_of_getElem? hc)
    have hq : (pbeg m i n calls p).1.next ≤ N ∧ ∀ e ∈ (pbeg m i n calls p).2, e.call ≤ N := by
      unfold pbeg
      split
      · exact ⟨hp1, fun e he => by cases he⟩
      · split
        · exact ⟨hp1, fun e he => by cases he⟩
        · rename_i c hcc
          have := (List.getElem?_eq_some_iff.1 hcc).1
          refine ⟨by show p.next + 1 ≤ N; omega, fun e he => ?_⟩
          rw [List.mem_singleton.1 he]
          exact hp1
    unfold pact
    split
    · exact ⟨h1, h2⟩
    · split
      · refine ⟨fun p' hp' => ?_, fun e he => ?_⟩
        · rcases List.mem_or_eq_of_mem_set hp' with h | rfl
          · exact h1 p' h
          · exact hq.1
        · rcases List.mem_append.1 he with h | h
          · exact h2 e h
          · rcases List.mem_append.1 h with h | h
            · exact hq.2 e h
            · rw [List.mem_singleton.1 h]
              have := hq.1
              show (pbeg m i n calls p).1.next - 1 ≤ N
              omega
      · refine ⟨fun p' hp' => ?_, fun e he => ?_⟩
        · rcases List.mem_or_eq_of_mem_set hp' with h | rfl
          · exact h1 p' h
          · exact hq.1
        · rcases List.mem_append.1 he with h | h
          · exact h2 e h
          · exact hq.2 e h
  · exact ⟨h1, h2⟩
theorem prun_call {m : Mach} {N : Nat} (hN : ∀ calls ∈ m.threads, calls.length ≤ N) : ∀ (l : List Nat) (i : Nat) (s : PS), (∀ p ∈ s.ths, p.next ≤ N) → (∀ e ∈ s.evs, e.call ≤ N) → ∀ e ∈ (prun m i l s).evs, e.call ≤ N
  | [], _, _, _, h2 => h2
  | n :: l, i, s, h1, h2 => by
    have h := pstep_call hN (i := i) (n := n) h1 h2
    exact prun_call hN l (i + 1) _ h.1 h.2
theorem play_call {m : Mach} {N : Nat} (hN0 : N ≤ 1000) (hN : ∀ calls ∈ m.threads, calls.length ≤ N) (l : List Nat) : ∀ e ∈ (play m l).evs, e.call ≤ 1000 := fun e he => by
  have := prun_call hN l 0 (pinit m) (fun p hp => by
    unfold pinit at hp
    have := List.eq_of_mem_replicate hp
    subst this; exact Nat.zero_le _) (fun e he => by cases he) e he
  omega
theorem gcalls_sema (t : Nat) : ∀ i, gcalls false t i = rcalls 1 i
  | 0 => rfl
  | i + 1 => by rw [gcalls, rcalls, gcalls_sema t i]; rfl
theorem gsm_eq (n : Nat) : gmachN false n 1 ([((1 : Nat) : Int)] ++ [0]) enterCode leaveCode = gsm n := by
  unfold gmachN gsm
  congr 1
  refine List.map_congr_left fun t ht => ?_
  unfold gths
  rw [if_pos (List.mem_range.1 ht), gcalls_sema]
theorem enter_sh : ∀ o ∈ enterCode, OpSh enterCode.length o := by
  intro o ho
  simp only [enterCode, List.mem_cons, List.not_mem_nil, or_false] at ho
  repeat' (rcases ho with rfl | ho)
  all_goals first | exact ⟨by decide, by decide, by decide, by decide, by decide⟩ | (subst ho; exact ⟨by decide, by decide, by decide, by decide, by decide⟩)
theorem leave_sh : ∀ o ∈ leaveCode, OpSh leaveCode.length o := by
  intro o ho
  simp only [leaveCode, List.mem_cons, List.not_mem_nil, or_false] at ho
  repeat' (rcases ho with rfl | ho)
  all_goals first | exact ⟨by decide, by decide, by decide, by decide, by decide⟩ | (subst ho; exact ⟨by decide, by decide, by decide, by decide, by decide⟩)
set_option maxHeartbeats 8000000 in
set_option maxRecDepth 100000 in
theorem law_topGuardSema (xi : Int) (S : Option Addr) (p q : Nat) (bs : List UInt8) (w : World) (ha : -9223372036854775808 ≤ xi) (ha1 : xi ≤ 9223372036854775807) (hp : p ≤ q) (hq : q ≤ maxLen) (_ : q * 1 ≤ 140737488351232) (hS : Sl w 1 S p (byts bs)) (hT : STab w) :
    Calls Tryd.prog 3 #[.int .i64 xi, .slice S p q] w fun e w' => e = .returned (.bool true) ∧ Below w.heap.size w w' := by
  have HS := hid hS; have HT := hid hT
  clear hS hT
  have hpl : p ≤ 9223372036854775807 := by unfold maxLen at hq; omega
  clear hq
  have m1 := pk_lt xi 4 (by decide)
  obtain ⟨n, hR⟩ : ∃ n : Nat, wrap64 (1 + (pk xi 4 : Int)) = (n : Int) ∧ n = 1 + pk xi 4 := ⟨1 + pk xi 4, by rw [wrap_mid (by omega) (by omega)]; omega, rfl⟩
  have h1 : 1 ≤ n := by omega
  have h4 : n ≤ 4 := by omega
  have HR := hid hR.1
  clear hR m1
  go_enter Tryd.func3, Tryd.ntmps3
  go_wp2_with fail
  refine (picked xi 4 w (by decide) ha ha1 (by decide)).mono ?_
  rintro e w' ⟨rfl, rfl⟩
  go_wp2_with fail
  try rw [HR.out]
  refine (sema_words 1 w (by decide) (by decide)).mono ?_
  rintro e w1 ⟨v1, rfl, o1⟩
  obtain ⟨A0, c0, rfl, hc0, hc02⟩ := o1.form
  have HWL := hid (show ([((1 : Nat) : Int)]).length = 1 by simp)
  have O1 := hid o1
  rw [HWL.out] at hc0 ⊢
  clear o1
  go_wp2_with fail
  try rw [HR.out]
  refine (sema_enter 1 w1 (by decide) (by decide)).mono ?_
  rintro e w2 ⟨v2, rfl, o2⟩
  obtain ⟨A1, c1, rfl, hc1, hc12⟩ := o2.form
  obtain ⟨n1, hn1⟩ : ∃ n1, (enterCode).length = n1 := ⟨_, rfl⟩
  have O2 := hid o2
  rw [hn1] at O2 hc1 ⊢
  have HN1 := hid hn1
  clear o2 hn1
  go_wp2_with fail
  try rw [HR.out]
  refine (sema_leave 1 w2 (by decide) (by decide)).mono ?_
  rintro e w3 ⟨v3, rfl, o3⟩
  obtain ⟨A2, c2, rfl, hc2, hc22⟩ := o3.form
  obtain ⟨n2, hn2⟩ : ∃ n2, (leaveCode).length = n2 := ⟨_, rfl⟩
  have O3 := hid o3
  rw [hn2] at O3 hc2 ⊢
  have HN2 := hid hn2
  clear o3 hn2
  have B1 := hid O1.out.below
  have B2 := hid (bgo B1.out O2.out.below)
  have B3 := hid (bgo B2.out O3.out.below)
  have HSW := hid (show Sl w3 1 A0 1 (ints ([((1 : Nat) : Int)])) from by have h := (O1.out.sl.below (bgo O2.out.below O3.out.below)); rw [HWL.out] at h; exact h)
  have HC1 := hid (own_below (own_lower O2.out.own B1.out.size) O3.out.below)
  have HC2 := hid (own_lower O3.out.own B2.out.size)
  rw [HN1.out] at HC1
  rw [HN2.out] at HC2
  have hp1 : 0 < n1 ∧ n1 ≤ 200 := by rw [← HN1.out]; exact ⟨Nat.le_of_ble_eq_true rfl, Nat.le_of_ble_eq_true rfl⟩
  have hp2 : 0 < n2 ∧ n2 ≤ 200 := by rw [← HN2.out]; exact ⟨Nat.le_of_ble_eq_true rfl, Nat.le_of_ble_eq_true rfl⟩
  clear O1 O2 O3 hc0 hc02 hc1 hc12 hc2 hc22
  go_wp2_with fail
  try rw [HR.out]
  refine (guarded_of n 1 n1 n2 A0 A1 A2 c0 c1 c2 false ([((1 : Nat) : Int)]) (enterCode) (leaveCode) w w3 h1 h4 (by omega) (by omega) B3.out HSW.out HC1.out HC2.out hp1.1 hp2.1 HN1.out HN2.out ⟨by rw [HN1.out]; exact hp1.2, enter_sh⟩ ⟨by rw [HN2.out]; exact hp2.2, leave_sh⟩ HT.out).mono ?_
  rintro e w4 ⟨AW, cW, Cb, T, cv, tv, av, rfl, hW4, hM4, b4⟩
  obtain ⟨NW, hNW⟩ : ∃ NW, (([((1 : Nat) : Int)]) ++ [(0 : Int)]).length = NW := ⟨_, rfl⟩
  have HW := hid hW4; have HM := hid hM4; have B4 := hid b4
  rw [hNW] at HW ⊢
  have HNW2 := hid (show NW = 1 + 1 by rw [← hNW, List.length_append, HWL.out]; rfl)
  have HNW := hid (show 0 < NW ∧ NW ≤ 10 by have := HNW2.out; omega)
  clear hW4 hM4 b4 hNW HSW HC1 HC2 B1 B2 B3 hp1 hp2 HN1 HN2
  obtain ⟨X, hX⟩ : ∃ X, w4.heap.size = X := ⟨_, rfl⟩
  go_upto_region 6 with fail
  have HX0 := hid (blkN w4 34 #[.slice AW NW cW, .slice (some ⟨Cb, 0, none⟩) 3 3, .slice (some ⟨T, 0, none⟩) n n] X hX)
  have BA := hid (bgo B4.out (bnew (bnil w4) (.cells #[.slice AW NW cW, .slice (some ⟨Cb, 0, none⟩) 3 3, .slice (some ⟨T, 0, none⟩) n n] 34)))
  have HMN := hid (HM.out.below (bnew (bnil w4) (.cells #[.slice AW NW cW, .slice (some ⟨Cb, 0, none⟩) 3 3, .slice (some ⟨T, 0, none⟩) n n] 34)))
  have HMA := hid (by have h := gmach_at (ws := ([((1 : Nat) : Int)]) ++ [0]) HMN.out h4 ⟨Nat.le_of_ble_eq_true rfl, enter_sh⟩ ⟨Nat.le_of_ble_eq_true rfl, leave_sh⟩ (by omega); rw [gsm_eq] at h; exact h)
  have HWA := hid (own_below HW.out (bnew (bnil w4) (.cells #[.slice AW NW cW, .slice (some ⟨Cb, 0, none⟩) 3 3, .slice (some ⟨T, 0, none⟩) n n] 34)))
  generalize World.alloc w4 _ = wA at *
  clear hX HM HW HMN
  have y0 : wA.cell? ⟨X, 0, none⟩ = some (.slice AW NW cW) := HX0.out.cell 0
  have y1 : wA.cell? ⟨X, 1, none⟩ = some (.slice (some ⟨Cb, 0, none⟩) 3 3) := HX0.out.cell 1
  have y2 : wA.cell? ⟨X, 2, none⟩ = some (.slice (some ⟨T, 0, none⟩) n n) := HX0.out.cell 2
  have HCL := hid (show ∀ calls ∈ (gsm n).threads, calls.length ≤ 18 from fun calls h => by
    obtain ⟨t, ht, rfl⟩ := List.mem_map.1 h
    have := rcalls_len 1 6; omega)
  refine wp_region_held_drew (S := (fun w' => w'.cell? ⟨X, 0, none⟩ = some (.slice AW NW cW) ∧ w'.cell? ⟨X, 1, none⟩ = some (.slice (some ⟨Cb, 0, none⟩) 3 3) ∧ w'.cell? ⟨X, 2, none⟩ = some (.slice (some ⟨T, 0, none⟩) n n))) (by kernel_rfl) ?_ (fun hHeld => ?_)
  · (try dsimp only); (first | assumption | exact ⟨y0, y1, y2⟩ | exact ⟨z0, z1, z2⟩ | exact ⟨u0, u1, u2⟩)
  refine wpAnyH_take (i := 0) (oi := ⟨some 37, _, _, _, _, _⟩) (v := ?_) rfl (by kernel_rfl) (by kernel_rfl) (by kernel_rfl) (fun _ _ _ h => h) (Or.inl ⟨by rfl, ?_⟩) (by assumption) ?_
  rotate_left
  · intro w hSw; (try dsimp only at hSw); go_simp <;> with_reducible rfl
  try simp only [Act.put, List.setIfInBounds_toArray, List.set_cons_zero, List.set_cons_succ]
  refine wpAnyH_take (i := 1) (oi := ⟨some 38, _, _, _, _, _⟩) (v := ?_) rfl (by kernel_rfl) (by kernel_rfl) (by kernel_rfl) (fun _ _ _ h => h) (Or.inl ⟨by rfl, ?_⟩) (by assumption) ?_
  rotate_left
  · intro w hSw; (try dsimp only at hSw); go_simp <;> with_reducible rfl
  try simp only [Act.put, List.setIfInBounds_toArray, List.set_cons_zero, List.set_cons_succ]
  refine wpAnyH_take (i := 2) (oi := ⟨some 39, _, _, _, _, _⟩) (v := ?_) rfl (by kernel_rfl) (by kernel_rfl) (by kernel_rfl) (fun _ _ _ h => h) (Or.inl ⟨by rfl, ?_⟩) (by assumption) ?_
  rotate_left
  · intro w hSw; (try dsimp only at hSw); go_simp <;> with_reducible rfl
  try simp only [Act.put, List.setIfInBounds_toArray, List.set_cons_zero, List.set_cons_succ]
  refine wpAnyH_take (i := 3) (oi := ⟨some 40, _, _, _, _, _⟩) (v := ?_) rfl (by kernel_rfl) (by kernel_rfl) (by kernel_rfl) (fun _ _ _ h => h) (Or.inl ⟨by rfl, ?_⟩) (by assumption) ?_
  rotate_left
  · intro w hSw; (try dsimp only at hSw); go_simp <;> with_reducible rfl
  try simp only [Act.put, List.setIfInBounds_toArray, List.set_cons_zero, List.set_cons_succ]
  refine wpAnyH_take (i := 4) (oi := ⟨some 41, _, _, _, _, _⟩) (v := ?_) rfl (by kernel_rfl) (by kernel_rfl) (by kernel_rfl) (fun _ _ _ h => h) (Or.inl ⟨by rfl, ?_⟩) (by assumption) ?_
  rotate_left
  · intro w hSw; (try dsimp only at hSw); go_simp <;> with_reducible rfl
  try simp only [Act.put, List.setIfInBounds_toArray, List.set_cons_zero, List.set_cons_succ]
  refine wpAnyH_take (i := 5) (oi := ⟨some 42, _, _, _, _, _⟩) (v := ?_) rfl (by kernel_rfl) (by kernel_rfl) (by kernel_rfl) (fun _ _ _ h => h) (Or.inl ⟨by rfl, ?_⟩) (by assumption) ?_
  rotate_left
  · intro w hSw; (try dsimp only at hSw); go_simp <;> with_reducible rfl
  try simp only [Act.put, List.setIfInBounds_toArray, List.set_cons_zero, List.set_cons_succ]
  refine wpAnyH_take (i := 6) (oi := ⟨some 43, _, _, _, _, _⟩) (v := ?_) rfl (by kernel_rfl) (by kernel_rfl) (by kernel_rfl) (fun _ _ _ h => h) (Or.inl ⟨by rfl, ?_⟩) (by assumption) ?_
  rotate_left
  · intro w hSw; (try dsimp only at hSw); go_simp <;> with_reducible rfl
  try simp only [Act.put, List.setIfInBounds_toArray, List.set_cons_zero, List.set_cons_succ]
  refine wpAnyH_take (i := 7) (oi := ⟨some 44, _, _, _, _, _⟩) (v := ?_) rfl (by kernel_rfl) (by kernel_rfl) (by kernel_rfl) (fun _ _ _ h => h) (Or.inl ⟨by rfl, ?_⟩) (by assumption) ?_
  rotate_left
  · intro w hSw; (try dsimp only at hSw); go_simp <;> with_reducible rfl
  try simp only [Act.put, List.setIfInBounds_toArray, List.set_cons_zero, List.set_cons_succ]
  refine wpAnyH_take (i := 8) (oi := ⟨some 45, _, _, _, _, _⟩) (v := ?_) rfl (by kernel_rfl) (by kernel_rfl) (by kernel_rfl) (fun _ _ _ h => h) (Or.inl ⟨by rfl, ?_⟩) (by assumption) ?_
  rotate_left
  · intro w hSw; (try dsimp only at hSw); go_simp <;> with_reducible rfl
  try simp only [Act.put, List.setIfInBounds_toArray, List.set_cons_zero, List.set_cons_succ]
  refine wpAnyH_take (i := 9) (oi := ⟨some 46, _, _, _, _, _⟩) (v := ?_) rfl (by kernel_rfl) (by kernel_rfl) (by kernel_rfl) (fun _ _ _ h => h) (Or.inl ⟨by rfl, ?_⟩) (by assumption) ?_
  rotate_left
  · intro w hSw; (try dsimp only at hSw); go_simp <;> with_reducible rfl
  try simp only [Act.put, List.setIfInBounds_toArray, List.set_cons_zero, List.set_cons_succ]
  refine wpAnyH_take (i := 10) (oi := ⟨some 47, _, _, _, _, _⟩) (v := ?_) rfl (by kernel_rfl) (by kernel_rfl) (by kernel_rfl) (fun _ _ _ h => h) (Or.inl ⟨by rfl, ?_⟩) (by assumption) ?_
  rotate_left
  · intro w hSw; (try dsimp only at hSw); go_simp <;> with_reducible rfl
  try simp only [Act.put, List.setIfInBounds_toArray, List.set_cons_zero, List.set_cons_succ]
  refine wpAnyH_take (i := 11) (oi := ⟨some 48, _, _, _, _, _⟩) (v := ?_) rfl (by kernel_rfl) (by kernel_rfl) (by kernel_rfl) (fun _ _ _ h => h) (Or.inl ⟨by rfl, ?_⟩) (by assumption) ?_
  rotate_left
  · intro w hSw; (try dsimp only at hSw); go_simp <;> with_reducible rfl
  try simp only [Act.put, List.setIfInBounds_toArray, List.set_cons_zero, List.set_cons_succ]
  refine wpAnyH_take (i := 12) (oi := ⟨some 49, _, _, _, _, _⟩) (v := ?_) rfl (by kernel_rfl) (by kernel_rfl) (by kernel_rfl) (fun _ _ _ h => h) (Or.inl ⟨by rfl, ?_⟩) (by assumption) ?_
  rotate_left
  · intro w hSw; (try dsimp only at hSw); go_simp <;> with_reducible rfl
  try simp only [Act.put, List.setIfInBounds_toArray, List.set_cons_zero, List.set_cons_succ]
  refine wpAnyH_take (i := 13) (oi := ⟨some 50, _, _, _, _, _⟩) (v := ?_) rfl (by kernel_rfl) (by kernel_rfl) (by kernel_rfl) (fun _ _ _ h => h) (Or.inl ⟨by rfl, ?_⟩) (by assumption) ?_
  rotate_left
  · intro w hSw; (try dsimp only at hSw); go_simp <;> with_reducible rfl
  try simp only [Act.put, List.setIfInBounds_toArray, List.set_cons_zero, List.set_cons_succ]
  refine wpAnyH_take (i := 14) (oi := ⟨some 51, _, _, _, _, _⟩) (v := ?_) rfl (by kernel_rfl) (by kernel_rfl) (by kernel_rfl) (fun _ _ _ h => h) (Or.inl ⟨by rfl, ?_⟩) (by assumption) ?_
  rotate_left
  · intro w hSw; (try dsimp only at hSw); go_simp <;> with_reducible rfl
  try simp only [Act.put, List.setIfInBounds_toArray, List.set_cons_zero, List.set_cons_succ]
  refine wpAnyH_take (i := 15) (oi := ⟨some 52, _, _, _, _, _⟩) (v := ?_) rfl (by kernel_rfl) (by kernel_rfl) (by kernel_rfl) (fun _ _ _ h => h) (Or.inl ⟨by rfl, ?_⟩) (by assumption) ?_
  rotate_left
  · intro w hSw; (try dsimp only at hSw); go_simp <;> with_reducible rfl
  try simp only [Act.put, List.setIfInBounds_toArray, List.set_cons_zero, List.set_cons_succ]
  refine wpAnyH_take (i := 16) (oi := ⟨some 53, _, _, _, _, _⟩) (v := ?_) rfl (by kernel_rfl) (by kernel_rfl) (by kernel_rfl) (fun _ _ _ h => h) (Or.inl ⟨by rfl, ?_⟩) (by assumption) ?_
  rotate_left
  · intro w hSw; (try dsimp only at hSw); go_simp <;> with_reducible rfl
  try simp only [Act.put, List.setIfInBounds_toArray, List.set_cons_zero, List.set_cons_succ]
  refine wpAnyH_ready (rs := [17]) (by kernel_rfl) (by simp) ?_
  refine AllReadyH.cons (o := ⟨some 54, _, _, _, _, _⟩) rfl (fun K hK => ?_) AllReadyH.nil
  go_simp
  refine (schedule_n S p q n 3000 bs _ hpl (by omega) (by omega) (by decide) (HS.out.below (bgo BA.out (bnil wA).drew))).mono ?_; rintro e w2 ⟨v, rfl, ho⟩; have hl4 : (schedN bs n 3000).length ≤ 3000 := (by have := schedN_len bs n 3000; omega); have HLT := hid (schedN_lt bs (N := n) (by omega) 3000); generalize schedN bs n 3000 = all at *; obtain ⟨Al, cl, rfl, hcl, hcl2⟩ := ho.form; have HO := hid ho; clear ho; rw [show (nats all).length = all.length by simp] at *; unfold maxLen at hcl2; obtain ⟨N, hN⟩ : ∃ N, all.length = N := ⟨_, rfl⟩; rw [hN] at HO hl4 hcl ⊢; have HN := hid hN; clear hN; have BS := hid (bgo (bnil wA).drew HO.out.below); obtain ⟨z0, z1, z2⟩ := cells3 BS.out y0 y1 y2
  go_wp2_with fail
  refine hK.out _ _ ?_ (fun hHeld => ?_)
  · (try dsimp only); (first | assumption | exact ⟨y0, y1, y2⟩ | exact ⟨z0, z1, z2⟩ | exact ⟨u0, u1, u2⟩)
  clear hK K
  try simp only [Act.put, List.setIfInBounds_toArray, List.set_cons_zero, List.set_cons_succ]
  refine wpAnyH_ready (rs := [18]) (by kernel_rfl) (by simp) ?_
  refine AllReadyH.cons (o := ⟨some 55, _, _, _, _, _⟩) rfl (fun K hK => ?_) AllReadyH.nil
  go_simp
  have HWS := hid (show Sl w2 1 AW NW (ints (gsm n).words) from Sl.own (own_below HWA.out BS.out)); have HP := hid (guards_play n (l := all) (by rw [HN.out]; omega)); have HMB := hid (HMA.out.below BS.out); refine (kept_of AW (some ⟨Cb, 0, none⟩) (some ⟨T, 0, none⟩) Al NW cW 3 3 n n N cl (gsm n) all w2 (by have := HNW.out; omega) (by decide) (by omega) (by omega) hcl (HT.out.below (bgo BA.out BS.out)) HMB.out HWS.out HO.out.sl HLT.out (by have := HNW.out; omega) (play_call (N := 18) (by decide) HCL.out all) (by rw [HP.out.1]; exact HNW2.out.symm) (by have h := HP.out.2.1; rw [HNW2.out]; exact h) HP.out.2.2.1).mono ?_; rintro e w3 ⟨rfl, b3⟩; have B3 := hid (bgo BS.out b3); clear b3; obtain ⟨u0, u1, u2⟩ := cells3 B3.out y0 y1 y2
  go_wp2_with fail
  refine hK.out _ _ ?_ (fun hHeld => ?_)
  · (try dsimp only); (first | assumption | exact ⟨y0, y1, y2⟩ | exact ⟨z0, z1, z2⟩ | exact ⟨u0, u1, u2⟩)
  clear hK K
  try simp only [Act.put, List.setIfInBounds_toArray, List.set_cons_zero, List.set_cons_succ]
  refine wpAnyH_take (i := 19) (oi := ⟨some 56, _, _, _, _, _⟩) (v := ?_) rfl (by kernel_rfl) (by kernel_rfl) (by kernel_rfl) (fun _ _ _ h => h) (Or.inl ⟨by rfl, ?_⟩) (by assumption) ?_
  rotate_left
  · intro w hSw; (try dsimp only at hSw); go_simp <;> with_reducible rfl
  try simp only [Act.put, List.setIfInBounds_toArray, List.set_cons_zero, List.set_cons_succ]
  refine wpAnyH_take (i := 20) (oi := ⟨some 4, _, _, _, _, _⟩) (v := ?_) rfl (by kernel_rfl) (by kernel_rfl) (by kernel_rfl) (fun _ _ _ h => h) (Or.inl ⟨by rfl, ?_⟩) (by assumption) ?_
  rotate_left
  · intro w hSw; (try dsimp only at hSw); go_simp <;> with_reducible rfl
  try simp only [Act.put, List.setIfInBounds_toArray, List.set_cons_zero, List.set_cons_succ]
  refine wpAnyH_done (by kernel_rfl) ?_ _
  rotate_left
  have B03 := hid (bgo BA.out B3.out)
  clear hHeld
  clear z0 z1 z2 u0 u1 u2 y0 y1 y2 HX0 HMA HWA BA HO HWS HMB BS
  go_wp2_with fail
  go_ret
  exact ⟨rfl, B03.out⟩
end Go.Proofs.YtbcjgnigdddlkaaDoor
