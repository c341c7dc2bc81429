/-
  barographkeep.chosen: its walk. Of each series whether it is meant.
-/
import Derived.Test.YtfdgklfkpofkeaaTgIx
import Derived.Deep.OwnRows
namespace Go.Proofs.Ytfdgklfkpofkeaa
open Go.RowKit Go.Maps
set_option linter.unusedVariables false

theorem same_ints (A B : Option Addr) (n c d : Nat) (l : List Int) (w : World) (hn : n ≤ 9223372036854775807) (hA : Sl w 1 A n (ints l)) (hB : Sl w 1 B n (ints l)) :
    Calls Try.prog 26 #[.slice A n c, .slice B n d] w fun e w' => e = .returned (.bool true) ∧ Below w.heap.size w w' := by
  have HA := hid hA; have HB := hid hB; clear hA hB
  have hnn : ((n : Int) != (n : Int)) = false := by simp
  go_enter Try.func26, Try.ntmps26
  go_wp2
  go_loopw [5] (fun i wr => ∃ k : Nat, k ≤ n ∧ i = .int .i64 k ∧ Below w.heap.size w wr) (fun i _ => n - (intOf i).toNat)
  case atStart => exact ⟨0, Nat.zero_le _, rfl, bnil _⟩
  case round =>
    obtain ⟨k, hk, rfl, hb⟩ := hrel
    have HW := hid hb; clear hb
    by_cases hlt : k < n
    · obtain ⟨ad, x, rfl, hx, c1⟩ := (HA.out.below HW.out).ati hlt
      obtain ⟨ad', x', rfl, hx', c2⟩ := (HB.out.below HW.out).ati hlt
      obtain rfl : x = x' := by rw [hx] at hx'; injection hx'
      clear hx hx'
      have hq : ((x : Int) != (x : Int)) = false := by simp
      have i1 : (k : Int) < (n : Int) := by omega
      go_wp2_with fail
      go_region
      all_goals
        go_wp2
        go_roundw
        case rel => exact ⟨k + 1, by omega, by go_num, HW.out.drew⟩
        case measure => simp [intOf] <;> omega
    · obtain rfl : k = n := by omega
      go_wp2
      go_ret
      exact ⟨rfl, HW.out⟩
theorem mk_bools (n : Nat) (hn : n ≤ 1000) : ∃ cs : Array Value, (∀ q, q < n → cs[q]? = some (.bool false)) ∧ ∀ w : World, (Instr.makeSlice 49 (.int .i64 (n : Int)) (.int .i64 (n : Int))).run Try.prog w = .ok (.slice (some ⟨w.heap.size, 0, none⟩) n n) (w.alloc (.cells cs 4)) := by
  have h := fun w => run_make_row' (P := Try.prog) 49 4 (.bool false) 1 Try.underlying49 (by kernel_rfl) rfl .i64 .i64 n (by omega) (by omega) w
  refine ⟨_, fun q hq => ?_, h⟩
  rw [← Array.getElem?_toList, Go.toList_madeCells_one, List.getElem?_replicate, if_pos hq]
/-- is a series meant? -/
def meantB (ns : List Nat) (ms : List VMatch) (q : Nat) : Bool := ms.all fun m => m.is (ns.getD q 0)
theorem selM_mem (ns : List Nat) (ms : List VMatch) (q : Nat) : q ∈ selM ns ms ↔ q < ns.length ∧ meantB ns ms q = true := by
  unfold selM meantB; rw [List.mem_filter, List.mem_range]
theorem selM_asc (ns : List Nat) (ms : List VMatch) : (selM ns ms).Pairwise (· < ·) := by
  unfold selM; exact List.pairwise_lt_range.filter _
theorem castL_at {xs : List Nat} {i : Nat} {x : Int} (h : (castL xs)[i]? = some x) : ∃ q : Nat, xs[i]? = some q ∧ x = (q : Int) := by
  unfold castL at h
  rw [List.getElem?_map] at h
  cases hq : xs[i]? with
  | none => rw [hq] at h; simp at h
  | some q => rw [hq] at h; simp at h; exact ⟨q, rfl, h.symm⟩
theorem take_dec {xs : List Nat} {i q : Nat} (h : xs[i]? = some q) (z : Nat) : decide (z ∈ xs.take (i + 1)) = if q = z then true else decide (z ∈ xs.take i) := by
  rw [List.take_add_one, h]
  by_cases e : q = z
  · subst e; simp
  · rw [if_neg e]
    have : (z ∈ xs.take i ++ (some q).toList) = (z ∈ xs.take i) := by
      apply propext; simp; intro h; exact absurd h.symm e
    simp only [this]
theorem step_b {xs : List Nat} {i q n : Nat} {cs : Array Value} (hcs : ∀ z, z < n → cs[z]? = some (.bool (decide (z ∈ xs.take i)))) (hq : xs[i]? = some q) (hqn : q < n) : ∀ z, z < n → (cs.setIfInBounds q (.bool true))[z]? = some (.bool (decide (z ∈ xs.take (i + 1)))) := fun z hz => by
  have h3 := (Array.getElem?_eq_some_iff.1 (hcs q hqn)).1
  rw [Array.getElem?_setIfInBounds, take_dec hq z]
  by_cases e : q = z
  · subst e; rw [if_pos rfl, if_pos h3, if_pos rfl]
  · rw [if_neg e, if_neg e, hcs z hz]
/-- a row of answers -/
def Bls (w : World) (A : Option Addr) (n : Nat) (f : Nat → Bool) : Prop := ∀ q, q < n → ∃ ad, A = some ad ∧ w.cell? (ad.add q) = some (.bool (f q))
theorem Bls.below {w w' : World} {A : Option Addr} {n : Nat} {f : Nat → Bool} (h : Bls w A n f) (hb : Below w.heap.size w w') : Bls w' A n f := fun q hq => by
  obtain ⟨ad, e, c⟩ := h q hq; exact ⟨ad, e, cell_below hb c⟩
theorem ser_one (w : World) : SerAt ((w.alloc (.cells #[.string ⟨#[97]⟩, .string ⟨#[120]⟩] 43)).alloc (.cells #[.slice (some ⟨w.heap.size, 0, none⟩) 1 1] 61)) (some ⟨w.heap.size + 1, 0, none⟩) 1 [1] := by
  refine ⟨rfl, by omega, by decide, by decide, [.slice (some ⟨w.heap.size, 0, none⟩) 1 1], rfl, ?_, fun i x hx => ?_⟩
  · exact Sl.fresh' _ #[_] 61 1 1 _ (by simp) rfl
  · have hi : i = 0 := by have := (List.getElem?_eq_some_iff.1 hx).1; simp at this; omega
    subst hi
    have hx' : 1 = x := by simpa using hx
    subst hx'
    refine ⟨_, _, _, rfl, rfl, ?_⟩
    exact (Sl.fresh' w #[.string ⟨#[97]⟩, .string ⟨#[120]⟩] 43 2 1 _ rfl rfl).below (bnew (bnil _) _)
theorem sel_one : selM [1] [] = [0] := by decide
set_option maxRecDepth 100000 in
set_option maxHeartbeats 8000000 in
theorem chosen_of (A B : Option Addr) (n c m d : Nat) (ns : List Nat) (ms : List VMatch) (w : World) (hnc : n ≤ c) (h : SerAt w A n ns) (hm : m ≤ 8) (hB : Sl w 3 B m (ms.flatMap gM)) (hl : ms.length = m) (hok : ∀ x ∈ ms, MOk x) :
    Calls Try.prog 17 #[.slice A n c, .slice B m d] w fun e w' => ∃ A' c', e = .returned (.tuple #[.slice A' n c', .bool true]) ∧ Below w.heap.size w w' ∧ Bls w' A' n (meantB ns ms) := by
  have HS := hid h
  have hn30 := h.most
  have hlen := h.len
  have HB := hid hB; have HL := hid hl; have HOK := hid hok
  obtain ⟨cs0, hcs, hmk⟩ := mk_bools n (by omega)
  have HCS := hid hcs
  clear h hB hl hok hcs
  go_enter Try.func17, Try.ntmps17
  go_wp2_with fail
  refine (tags_select A B n c m d ns ms w hnc HS.out hm HB.out HL.out HOK.out).mono ?_
  rintro e w1 ⟨A1, c1, rfl, z1, s1⟩
  have Z1 := hid z1
  have S1 := hid s1
  clear z1 s1
  obtain ⟨xs, hxs⟩ : ∃ xs, selM ns ms = xs := ⟨_, rfl⟩
  have HX := hid hxs
  have HXM := hid (fun q => show q ∈ xs ↔ q < n ∧ meantB ns ms q = true by rw [← hxs, selM_mem, hlen])
  have HXA := hid (show xs.Pairwise (· < ·) by rw [← hxs]; exact selM_asc ns ms)
  obtain ⟨N, hN⟩ : ∃ N, xs.length = N := ⟨_, rfl⟩
  have HN := hid hN
  have S2 := hid (show Sl w1 1 A1 N (ints (castL xs)) by have := S1.out; rw [hxs, hN] at this; exact this)
  have hN30 : N ≤ 30 := by rw [← hN, ← hxs]; have := selM_len ns ms; omega
  rw [hxs, hN]
  clear hxs hN S1
  go_wp2_with fail
  have ZL := hid (bnew (bnew (bnil w1) (.cells #[.string ⟨#[97]⟩, .string ⟨#[120]⟩] 43)) (.cells #[.slice (some ⟨w1.heap.size, 0, none⟩) 1 1] 61))
  refine (tags_select _ none 1 1 0 0 [1] [] _ (Nat.le_refl _) (ser_one w1) (by omega) (Sl.nil _) rfl (by simp)).mono ?_
  rintro e w2 ⟨A2, c2, rfl, z2, s2⟩
  have Z2 := hid (bgo Z1.out (bgo ZL.out z2))
  have S3 := hid (S2.out.below (bgo ZL.out z2))
  rw [sel_one] at s2 ⊢
  have T2 := hid (show Sl w2 1 A2 1 (ints [0]) from s2)
  clear z2 s2
  obtain ⟨b, hb⟩ : ∃ b, w2.heap.size = b := ⟨_, rfl⟩
  obtain ⟨W3, hW3⟩ : ∃ W3, w2.alloc (.cells cs0 4) = W3 := ⟨_, rfl⟩
  have HW3 := hid hW3
  have HBB := hid hb
  have B3 := hid (show Blk W3 b 4 cs0 by rw [← hW3, ← hb]; exact Blk.new w2 _ _)
  have Z3 := hid (show Below b w2 W3 by rw [← hW3, ← hb]; exact bnew (bnil w2) _)
  clear hb hW3
  go_upto_region 4 with fail
  rw [HW3.out]
  simp only [HBB.out]
  go_wp2_with fail
  go_loopw [11] (fun q wr => ∃ (i : Nat), i ≤ N ∧ q = .int .i64 i ∧ Hid (Below b w2 wr) ∧ Hid (∃ cs, Blk wr b 4 cs ∧ ∀ q, q < n → cs[q]? = some (.bool (decide (q ∈ xs.take i))))) (fun q _ => N - (intOf q).toNat)
  case atStart => exact ⟨0, Nat.zero_le _, rfl, Z3, hid ⟨_, B3.out, fun q hq => by rw [HCS.out q hq]; simp⟩⟩
  case round =>
    obtain ⟨i, hi, rfl, HZ, HC⟩ := hrel
    by_cases hlt : i < N
    · have i1 : (i : Int) < (N : Int) := by omega
      obtain ⟨ad, x, rfl, hx, cx⟩ := (S3.out.below (w' := wr) (by rw [HBB.out]; exact HZ.out)).ati hlt
      obtain ⟨q, hq, rfl⟩ := castL_at hx
      have hqn : q < n := ((HXM.out q).1 (List.mem_of_getElem? hq)).1
      obtain ⟨cs, hb, hcs⟩ := HC.out
      have HQ := hid hq
      have HCX := hid hcs
      have HBX := hid hb
      have bf := hb.frozen q
      have bc := (hb.cell q).trans (hcs q hqn)
      have q0 : ¬ (q : Int) < 0 := by omega
      have q0d : decide ((q : Int) < 0) = false := decide_eq_false q0
      have q1 : (q : Int) < (n : Int) := by omega
      have q1d : decide ((n : Int) ≤ (q : Int)) = false := decide_eq_false (by omega)
      clear hx hq hcs hb
      by_cases hi0 : i = 0
      · have k0 : ¬ (0 : Int) < (i : Int) := by omega
        have k0d : decide ((0 : Int) < (i : Int)) = false := decide_eq_false k0
        clear hi0
        go_upto_region 7 with fail
        refine wp_region_held_drew (S := (fun w' => w'.cell? (ad.add i) = some (.int .i64 (q : Int)))) (by kernel_rfl) ?_ (fun hHeld => ?_)
        · (try dsimp only); exact cx
        refine wpAnyH_take (i := 0) (oi := ⟨some 34, _, _, _, _, _⟩) (v := ?_) rfl (by kernel_rfl) (by kernel_rfl) (by kernel_rfl) (fun _ _ _ h => h) (Or.inl ⟨by rfl, ?_⟩) (by assumption) ?_
        rotate_left
        · intro w hSw; (try dsimp only at hSw); go_simp <;> with_reducible rfl
        try simp only [Act.put, List.setIfInBounds_toArray, List.set_cons_zero, List.set_cons_succ]
        refine wpAnyH_take (i := 1) (oi := ⟨some 35, _, _, _, _, _⟩) (v := ?_) rfl (by kernel_rfl) (by kernel_rfl) (by kernel_rfl) (fun _ _ _ h => h) (Or.inl ⟨by rfl, ?_⟩) (by assumption) ?_
        rotate_left
        · intro w hSw; (try dsimp only at hSw); go_simp <;> with_reducible rfl
        try simp only [Act.put, List.setIfInBounds_toArray, List.set_cons_zero, List.set_cons_succ]
        refine wpAnyH_take (i := 2) (oi := ⟨some 36, _, _, _, _, _⟩) (v := ?_) rfl (by kernel_rfl) (by kernel_rfl) (by kernel_rfl) (fun _ _ _ h => h) (Or.inl ⟨by rfl, ?_⟩) (by assumption) ?_
        rotate_left
        · intro w hSw; (try dsimp only at hSw); go_simp <;> with_reducible rfl
        try simp only [Act.put, List.setIfInBounds_toArray, List.set_cons_zero, List.set_cons_succ]
        refine wpAnyH_take (i := 3) (oi := ⟨some 37, _, _, _, _, _⟩) (v := ?_) rfl (by kernel_rfl) (by kernel_rfl) (by kernel_rfl) (fun _ _ _ h => h) (Or.inl ⟨by rfl, ?_⟩) (by assumption) ?_
        rotate_left
        · intro w hSw; (try dsimp only at hSw); go_simp <;> with_reducible rfl
        try simp only [Act.put, List.setIfInBounds_toArray, List.set_cons_zero, List.set_cons_succ]
        refine wpAnyH_take (i := 4) (oi := ⟨some 38, _, _, _, _, _⟩) (v := .bool false) rfl (by kernel_rfl) (by kernel_rfl) (by kernel_rfl) (fun _ _ _ h => h) (Or.inl ⟨by rfl, ?_⟩) (by assumption) ?_
        · intro w hSw; (try dsimp only at hSw); go_simp <;> (first | with_reducible rfl | rfl | (simp) | omega)
        try simp only [Act.put, List.setIfInBounds_toArray, List.set_cons_zero, List.set_cons_succ]
        refine wpAnyH_take (i := 5) (oi := ⟨some 39, _, _, _, _, _⟩) (v := ?_) rfl (by kernel_rfl) (by kernel_rfl) (by kernel_rfl) (fun _ _ _ h => h) (Or.inl ⟨by rfl, ?_⟩) (by assumption) ?_
        rotate_left
        · intro w hSw; (try dsimp only at hSw); go_simp <;> with_reducible rfl
        try simp only [Act.put, List.setIfInBounds_toArray, List.set_cons_zero, List.set_cons_succ]
        refine wpAnyH_take (i := 6) (oi := ⟨some 40, _, _, _, _, _⟩) (v := ?_) rfl (by kernel_rfl) (by kernel_rfl) (by kernel_rfl) (fun _ _ _ h => h) (Or.inl ⟨by rfl, ?_⟩) (by assumption) ?_
        rotate_left
        · intro w hSw; (try dsimp only at hSw); go_simp <;> with_reducible rfl
        try simp only [Act.put, List.setIfInBounds_toArray, List.set_cons_zero, List.set_cons_succ]
        refine wpAnyH_take (i := 7) (oi := ⟨some 41, _, _, _, _, _⟩) (v := ?_) rfl (by kernel_rfl) (by kernel_rfl) (by kernel_rfl) (fun _ _ _ h => h) (Or.inl ⟨by rfl, ?_⟩) (by assumption) ?_
        rotate_left
        · intro w hSw; (try dsimp only at hSw); go_simp <;> with_reducible rfl
        try simp only [Act.put, List.setIfInBounds_toArray, List.set_cons_zero, List.set_cons_succ]
        refine wpAnyH_take (i := 8) (oi := ⟨some 42, _, _, _, _, _⟩) (v := ?_) rfl (by kernel_rfl) (by kernel_rfl) (by kernel_rfl) (fun _ _ _ h => h) (Or.inl ⟨by rfl, ?_⟩) (by assumption) ?_
        rotate_left
        · intro w hSw; (try dsimp only at hSw); go_simp <;> with_reducible rfl
        try simp only [Act.put, List.setIfInBounds_toArray, List.set_cons_zero, List.set_cons_succ]
        refine wpAnyH_take (i := 9) (oi := ⟨some 43, _, _, _, _, _⟩) (v := ?_) rfl (by kernel_rfl) (by kernel_rfl) (by kernel_rfl) (fun _ _ _ h => h) (Or.inl ⟨by rfl, ?_⟩) (by assumption) ?_
        rotate_left
        · intro w hSw; (try dsimp only at hSw); go_simp <;> with_reducible rfl
        try simp only [Act.put, List.setIfInBounds_toArray, List.set_cons_zero, List.set_cons_succ]
        refine wpAnyH_take (i := 10) (oi := ⟨some 44, _, _, _, _, _⟩) (v := ?_) rfl (by kernel_rfl) (by kernel_rfl) (by kernel_rfl) (fun _ _ _ h => h) (Or.inl ⟨by rfl, ?_⟩) (by assumption) ?_
        rotate_left
        · intro w hSw; (try dsimp only at hSw); go_simp <;> with_reducible rfl
        try simp only [Act.put, List.setIfInBounds_toArray, List.set_cons_zero, List.set_cons_succ]
        refine wpAnyH_take (i := 11) (oi := ⟨some 45, _, _, _, _, _⟩) (v := ?_) rfl (by kernel_rfl) (by kernel_rfl) (by kernel_rfl) (fun _ _ _ h => h) (Or.inl ⟨by rfl, ?_⟩) (by assumption) ?_
        rotate_left
        · intro w hSw; (try dsimp only at hSw); go_simp <;> with_reducible rfl
        try simp only [Act.put, List.setIfInBounds_toArray, List.set_cons_zero, List.set_cons_succ]
        refine wpAnyH_take (i := 12) (oi := ⟨some 46, _, _, _, _, _⟩) (v := .bool false) rfl (by kernel_rfl) (by kernel_rfl) (by kernel_rfl) (fun _ _ _ h => h) (Or.inl ⟨by rfl, ?_⟩) (by assumption) ?_
        · intro w hSw; (try dsimp only at hSw); go_simp <;> (first | with_reducible rfl | rfl | (simp; omega) | omega)
        try simp only [Act.put, List.setIfInBounds_toArray, List.set_cons_zero, List.set_cons_succ]
        refine wpAnyH_take (i := 13) (oi := ⟨some 47, _, _, _, _, _⟩) (v := ?_) rfl (by kernel_rfl) (by kernel_rfl) (by kernel_rfl) (fun _ _ _ h => h) (Or.inl ⟨by rfl, ?_⟩) (by assumption) ?_
        rotate_left
        · intro w hSw; (try dsimp only at hSw); go_simp <;> with_reducible rfl
        try simp only [Act.put, List.setIfInBounds_toArray, List.set_cons_zero, List.set_cons_succ]
        refine wpAnyH_take (i := 14) (oi := ⟨some 48, _, _, _, _, _⟩) (v := ?_) rfl (by kernel_rfl) (by kernel_rfl) (by kernel_rfl) (fun _ _ _ h => h) (Or.inl ⟨by rfl, ?_⟩) (by assumption) ?_
        rotate_left
        · intro w hSw; (try dsimp only at hSw); go_simp <;> with_reducible rfl
        try simp only [Act.put, List.setIfInBounds_toArray, List.set_cons_zero, List.set_cons_succ]
        refine wpAnyH_take (i := 15) (oi := ⟨some 49, _, _, _, _, _⟩) (v := ?_) rfl (by kernel_rfl) (by kernel_rfl) (by kernel_rfl) (fun _ _ _ h => h) (Or.inl ⟨by rfl, ?_⟩) (by assumption) ?_
        rotate_left
        · intro w hSw; (try dsimp only at hSw); go_simp <;> with_reducible rfl
        try simp only [Act.put, List.setIfInBounds_toArray, List.set_cons_zero, List.set_cons_succ]
        refine wpAnyH_take (i := 16) (oi := ⟨some 50, _, _, _, _, _⟩) (v := .bool false) rfl (by kernel_rfl) (by kernel_rfl) (by kernel_rfl) (fun _ _ _ h => h) (Or.inl ⟨by rfl, ?_⟩) (by assumption) ?_
        · intro w hSw; (try dsimp only at hSw); go_simp <;> (first | with_reducible rfl | rfl | (simp; omega) | omega)
        try simp only [Act.put, List.setIfInBounds_toArray, List.set_cons_zero, List.set_cons_succ]
        refine wpAnyH_take (i := 17) (oi := ⟨some 51, _, _, _, _, _⟩) (v := ?_) rfl (by kernel_rfl) (by kernel_rfl) (by kernel_rfl) (fun _ _ _ h => h) (Or.inl ⟨by rfl, ?_⟩) (by assumption) ?_
        rotate_left
        · intro w hSw; (try dsimp only at hSw); go_simp <;> with_reducible rfl
        try simp only [Act.put, List.setIfInBounds_toArray, List.set_cons_zero, List.set_cons_succ]
        refine wpAnyH_take (i := 18) (oi := ⟨some 52, _, _, _, _, _⟩) (v := undef) rfl (by kernel_rfl) (by kernel_rfl) (by kernel_rfl) (fun _ _ _ h => h) (Or.inr ⟨by rfl, rfl⟩) (by assumption) ?_
        try simp only [Act.put, List.setIfInBounds_toArray, List.set_cons_zero, List.set_cons_succ]
        refine wpAnyH_take (i := 19) (oi := ⟨some 53, _, _, _, _, _⟩) (v := undef) rfl (by kernel_rfl) (by kernel_rfl) (by kernel_rfl) (fun _ _ _ h => h) (Or.inr ⟨by rfl, rfl⟩) (by assumption) ?_
        try simp only [Act.put, List.setIfInBounds_toArray, List.set_cons_zero, List.set_cons_succ]
        refine wpAnyH_take (i := 20) (oi := ⟨some 54, _, _, _, _, _⟩) (v := undef) rfl (by kernel_rfl) (by kernel_rfl) (by kernel_rfl) (fun _ _ _ h => h) (Or.inr ⟨by rfl, rfl⟩) (by assumption) ?_
        try simp only [Act.put, List.setIfInBounds_toArray, List.set_cons_zero, List.set_cons_succ]
        refine wpAnyH_take (i := 21) (oi := ⟨some 55, _, _, _, _, _⟩) (v := undef) rfl (by kernel_rfl) (by kernel_rfl) (by kernel_rfl) (fun _ _ _ h => h) (Or.inr ⟨by rfl, rfl⟩) (by assumption) ?_
        try simp only [Act.put, List.setIfInBounds_toArray, List.set_cons_zero, List.set_cons_succ]
        refine wpAnyH_take (i := 22) (oi := ⟨some 56, _, _, _, _, _⟩) (v := undef) rfl (by kernel_rfl) (by kernel_rfl) (by kernel_rfl) (fun _ _ _ h => h) (Or.inr ⟨by rfl, rfl⟩) (by assumption) ?_
        try simp only [Act.put, List.setIfInBounds_toArray, List.set_cons_zero, List.set_cons_succ]
        refine wpAnyH_take (i := 23) (oi := ⟨some 57, _, _, _, _, _⟩) (v := undef) rfl (by kernel_rfl) (by kernel_rfl) (by kernel_rfl) (fun _ _ _ h => h) (Or.inr ⟨by rfl, rfl⟩) (by assumption) ?_
        try simp only [Act.put, List.setIfInBounds_toArray, List.set_cons_zero, List.set_cons_succ]
        refine wpAnyH_take (i := 24) (oi := ⟨some 58, _, _, _, _, _⟩) (v := undef) rfl (by kernel_rfl) (by kernel_rfl) (by kernel_rfl) (fun _ _ _ h => h) (Or.inr ⟨by rfl, rfl⟩) (by assumption) ?_
        try simp only [Act.put, List.setIfInBounds_toArray, List.set_cons_zero, List.set_cons_succ]
        refine wpAnyH_take (i := 25) (oi := ⟨some 59, _, _, _, _, _⟩) (v := undef) rfl (by kernel_rfl) (by kernel_rfl) (by kernel_rfl) (fun _ _ _ h => h) (Or.inr ⟨by rfl, rfl⟩) (by assumption) ?_
        try simp only [Act.put, List.setIfInBounds_toArray, List.set_cons_zero, List.set_cons_succ]
        refine wpAnyH_take (i := 26) (oi := ⟨some 60, _, _, _, _, _⟩) (v := undef) rfl (by kernel_rfl) (by kernel_rfl) (by kernel_rfl) (fun _ _ _ h => h) (Or.inr ⟨by rfl, rfl⟩) (by assumption) ?_
        try simp only [Act.put, List.setIfInBounds_toArray, List.set_cons_zero, List.set_cons_succ]
        refine wpAnyH_take (i := 27) (oi := ⟨some 61, _, _, _, _, _⟩) (v := undef) rfl (by kernel_rfl) (by kernel_rfl) (by kernel_rfl) (fun _ _ _ h => h) (Or.inr ⟨by rfl, rfl⟩) (by assumption) ?_
        try simp only [Act.put, List.setIfInBounds_toArray, List.set_cons_zero, List.set_cons_succ]
        refine wpAnyH_take (i := 28) (oi := ⟨some 62, _, _, _, _, _⟩) (v := ?_) rfl (by kernel_rfl) (by kernel_rfl) (by kernel_rfl) (fun _ _ _ h => h) (Or.inl ⟨by rfl, ?_⟩) (by assumption) ?_
        rotate_left
        · intro w hSw; (try dsimp only at hSw); go_simp <;> with_reducible rfl
        try simp only [Act.put, List.setIfInBounds_toArray, List.set_cons_zero, List.set_cons_succ]
        refine wpAnyH_take (i := 29) (oi := ⟨some 63, _, _, _, _, _⟩) (v := ?_) rfl (by kernel_rfl) (by kernel_rfl) (by kernel_rfl) (fun _ _ _ h => h) (Or.inl ⟨by rfl, ?_⟩) (by assumption) ?_
        rotate_left
        · intro w hSw; (try dsimp only at hSw); go_simp <;> with_reducible rfl
        try simp only [Act.put, List.setIfInBounds_toArray, List.set_cons_zero, List.set_cons_succ]
        refine wpAnyH_done (by kernel_rfl) ?_ _
        rotate_left
        all_goals
          go_wp2_with fail
          go_roundw
          case rel => exact ⟨i + 1, by omega, by go_num, hid (HZ.out.drew.setCell (p := ⟨b, q, none⟩) (Nat.le_refl _) _), hid ⟨_, (show Blk wr.drew b 4 cs from HBX.out).set_ q (.bool true), step_b HCX.out HQ.out hqn⟩⟩
          case measure => simp [intOf]; omega
      · obtain ⟨i', hi'⟩ : ∃ i', i = i' + 1 := ⟨i - 1, by omega⟩
        have hlt' : i' < N := by omega
        obtain ⟨ad', x', had', hx', cx'⟩ := (S3.out.below (w' := wr) (by rw [HBB.out]; exact HZ.out)).ati hlt'
        injection had' with had'
        subst had'
        obtain ⟨y, hy, rfl⟩ := castL_at hx'
        have hyq : y < q := by
          have h1 := HXA.out
          rw [List.pairwise_iff_getElem] at h1
          obtain ⟨l1, e1⟩ := List.getElem?_eq_some_iff.1 hy
          obtain ⟨l2, e2⟩ := List.getElem?_eq_some_iff.1 HQ.out
          have := h1 i' i l1 l2 (by omega)
          rw [e1, e2] at this
          exact this
        have k0 : (0 : Int) < (i : Int) := by omega
        have k0d : decide ((0 : Int) < (i : Int)) = true := decide_eq_true k0
        have ik : IntKind.i64.wrap (i' : Int) = (i' : Int) := IntWalk.i64_in _ (by omega)
        have ik1 : (i : Int) - 1 = (i' : Int) := by omega
        have ik2 : (i' : Int) < (N : Int) := by omega
        have q2 : (y : Int) < (q : Int) := by omega
        have q2d : decide ((q : Int) ≤ (y : Int)) = false := decide_eq_false (by omega)
        clear hi' hi0 hx' hy
        go_upto_region 7 with fail
        refine wp_region_held_drew (S := (fun w' => w'.cell? (ad.add i) = some (.int .i64 (q : Int)) ∧ w'.cell? (ad.add i') = some (.int .i64 (y : Int)))) (by kernel_rfl) ?_ (fun hHeld => ?_)
        · (try dsimp only); exact ⟨cx, cx'⟩
        refine wpAnyH_take (i := 0) (oi := ⟨some 34, _, _, _, _, _⟩) (v := ?_) rfl (by kernel_rfl) (by kernel_rfl) (by kernel_rfl) (fun _ _ _ h => h) (Or.inl ⟨by rfl, ?_⟩) (by assumption) ?_
        rotate_left
        · intro w hSw; (try dsimp only at hSw); go_simp <;> with_reducible rfl
        try simp only [Act.put, List.setIfInBounds_toArray, List.set_cons_zero, List.set_cons_succ]
        refine wpAnyH_take (i := 1) (oi := ⟨some 35, _, _, _, _, _⟩) (v := ?_) rfl (by kernel_rfl) (by kernel_rfl) (by kernel_rfl) (fun _ _ _ h => h) (Or.inl ⟨by rfl, ?_⟩) (by assumption) ?_
        rotate_left
        · intro w hSw; (try dsimp only at hSw); go_simp <;> with_reducible rfl
        try simp only [Act.put, List.setIfInBounds_toArray, List.set_cons_zero, List.set_cons_succ]
        refine wpAnyH_take (i := 2) (oi := ⟨some 36, _, _, _, _, _⟩) (v := ?_) rfl (by kernel_rfl) (by kernel_rfl) (by kernel_rfl) (fun _ _ _ h => h) (Or.inl ⟨by rfl, ?_⟩) (by assumption) ?_
        rotate_left
        · intro w hSw; (try dsimp only at hSw); go_simp <;> with_reducible rfl
        try simp only [Act.put, List.setIfInBounds_toArray, List.set_cons_zero, List.set_cons_succ]
        refine wpAnyH_take (i := 3) (oi := ⟨some 37, _, _, _, _, _⟩) (v := ?_) rfl (by kernel_rfl) (by kernel_rfl) (by kernel_rfl) (fun _ _ _ h => h) (Or.inl ⟨by rfl, ?_⟩) (by assumption) ?_
        rotate_left
        · intro w hSw; (try dsimp only at hSw); go_simp <;> with_reducible rfl
        try simp only [Act.put, List.setIfInBounds_toArray, List.set_cons_zero, List.set_cons_succ]
        refine wpAnyH_take (i := 4) (oi := ⟨some 38, _, _, _, _, _⟩) (v := .bool false) rfl (by kernel_rfl) (by kernel_rfl) (by kernel_rfl) (fun _ _ _ h => h) (Or.inl ⟨by rfl, ?_⟩) (by assumption) ?_
        · intro w hSw; (try dsimp only at hSw); go_simp <;> (first | with_reducible rfl | rfl | (simp) | omega)
        try simp only [Act.put, List.setIfInBounds_toArray, List.set_cons_zero, List.set_cons_succ]
        refine wpAnyH_take (i := 5) (oi := ⟨some 39, _, _, _, _, _⟩) (v := ?_) rfl (by kernel_rfl) (by kernel_rfl) (by kernel_rfl) (fun _ _ _ h => h) (Or.inl ⟨by rfl, ?_⟩) (by assumption) ?_
        rotate_left
        · intro w hSw; (try dsimp only at hSw); go_simp <;> with_reducible rfl
        try simp only [Act.put, List.setIfInBounds_toArray, List.set_cons_zero, List.set_cons_succ]
        refine wpAnyH_take (i := 6) (oi := ⟨some 40, _, _, _, _, _⟩) (v := ?_) rfl (by kernel_rfl) (by kernel_rfl) (by kernel_rfl) (fun _ _ _ h => h) (Or.inl ⟨by rfl, ?_⟩) (by assumption) ?_
        rotate_left
        · intro w hSw; (try dsimp only at hSw); go_simp <;> with_reducible rfl
        try simp only [Act.put, List.setIfInBounds_toArray, List.set_cons_zero, List.set_cons_succ]
        refine wpAnyH_take (i := 7) (oi := ⟨some 41, _, _, _, _, _⟩) (v := ?_) rfl (by kernel_rfl) (by kernel_rfl) (by kernel_rfl) (fun _ _ _ h => h) (Or.inl ⟨by rfl, ?_⟩) (by assumption) ?_
        rotate_left
        · intro w hSw; (try dsimp only at hSw); go_simp <;> with_reducible rfl
        try simp only [Act.put, List.setIfInBounds_toArray, List.set_cons_zero, List.set_cons_succ]
        refine wpAnyH_take (i := 8) (oi := ⟨some 42, _, _, _, _, _⟩) (v := ?_) rfl (by kernel_rfl) (by kernel_rfl) (by kernel_rfl) (fun _ _ _ h => h) (Or.inl ⟨by rfl, ?_⟩) (by assumption) ?_
        rotate_left
        · intro w hSw; (try dsimp only at hSw); go_simp <;> with_reducible rfl
        try simp only [Act.put, List.setIfInBounds_toArray, List.set_cons_zero, List.set_cons_succ]
        refine wpAnyH_take (i := 9) (oi := ⟨some 43, _, _, _, _, _⟩) (v := ?_) rfl (by kernel_rfl) (by kernel_rfl) (by kernel_rfl) (fun _ _ _ h => h) (Or.inl ⟨by rfl, ?_⟩) (by assumption) ?_
        rotate_left
        · intro w hSw; (try dsimp only at hSw); go_simp <;> with_reducible rfl
        try simp only [Act.put, List.setIfInBounds_toArray, List.set_cons_zero, List.set_cons_succ]
        refine wpAnyH_take (i := 10) (oi := ⟨some 44, _, _, _, _, _⟩) (v := ?_) rfl (by kernel_rfl) (by kernel_rfl) (by kernel_rfl) (fun _ _ _ h => h) (Or.inl ⟨by rfl, ?_⟩) (by assumption) ?_
        rotate_left
        · intro w hSw; (try dsimp only at hSw); go_simp <;> with_reducible rfl
        try simp only [Act.put, List.setIfInBounds_toArray, List.set_cons_zero, List.set_cons_succ]
        refine wpAnyH_take (i := 11) (oi := ⟨some 45, _, _, _, _, _⟩) (v := ?_) rfl (by kernel_rfl) (by kernel_rfl) (by kernel_rfl) (fun _ _ _ h => h) (Or.inl ⟨by rfl, ?_⟩) (by assumption) ?_
        rotate_left
        · intro w hSw; (try dsimp only at hSw); go_simp <;> with_reducible rfl
        try simp only [Act.put, List.setIfInBounds_toArray, List.set_cons_zero, List.set_cons_succ]
        refine wpAnyH_take (i := 12) (oi := ⟨some 46, _, _, _, _, _⟩) (v := .bool false) rfl (by kernel_rfl) (by kernel_rfl) (by kernel_rfl) (fun _ _ _ h => h) (Or.inl ⟨by rfl, ?_⟩) (by assumption) ?_
        · intro w hSw; (try dsimp only at hSw); go_simp <;> (first | with_reducible rfl | rfl | (simp; omega) | omega)
        try simp only [Act.put, List.setIfInBounds_toArray, List.set_cons_zero, List.set_cons_succ]
        refine wpAnyH_take (i := 13) (oi := ⟨some 47, _, _, _, _, _⟩) (v := ?_) rfl (by kernel_rfl) (by kernel_rfl) (by kernel_rfl) (fun _ _ _ h => h) (Or.inl ⟨by rfl, ?_⟩) (by assumption) ?_
        rotate_left
        · intro w hSw; (try dsimp only at hSw); go_simp <;> with_reducible rfl
        try simp only [Act.put, List.setIfInBounds_toArray, List.set_cons_zero, List.set_cons_succ]
        refine wpAnyH_take (i := 14) (oi := ⟨some 48, _, _, _, _, _⟩) (v := ?_) rfl (by kernel_rfl) (by kernel_rfl) (by kernel_rfl) (fun _ _ _ h => h) (Or.inl ⟨by rfl, ?_⟩) (by assumption) ?_
        rotate_left
        · intro w hSw; (try dsimp only at hSw); go_simp <;> with_reducible rfl
        try simp only [Act.put, List.setIfInBounds_toArray, List.set_cons_zero, List.set_cons_succ]
        refine wpAnyH_take (i := 15) (oi := ⟨some 49, _, _, _, _, _⟩) (v := ?_) rfl (by kernel_rfl) (by kernel_rfl) (by kernel_rfl) (fun _ _ _ h => h) (Or.inl ⟨by rfl, ?_⟩) (by assumption) ?_
        rotate_left
        · intro w hSw; (try dsimp only at hSw); go_simp <;> with_reducible rfl
        try simp only [Act.put, List.setIfInBounds_toArray, List.set_cons_zero, List.set_cons_succ]
        refine wpAnyH_take (i := 16) (oi := ⟨some 50, _, _, _, _, _⟩) (v := .bool true) rfl (by kernel_rfl) (by kernel_rfl) (by kernel_rfl) (fun _ _ _ h => h) (Or.inl ⟨by rfl, ?_⟩) (by assumption) ?_
        · intro w hSw; (try dsimp only at hSw); go_simp <;> (first | with_reducible rfl | rfl | (simp; omega) | omega)
        try simp only [Act.put, List.setIfInBounds_toArray, List.set_cons_zero, List.set_cons_succ]
        refine wpAnyH_take (i := 17) (oi := ⟨some 51, _, _, _, _, _⟩) (v := ?_) rfl (by kernel_rfl) (by kernel_rfl) (by kernel_rfl) (fun _ _ _ h => h) (Or.inl ⟨by rfl, ?_⟩) (by assumption) ?_
        rotate_left
        · intro w hSw; (try dsimp only at hSw); go_simp <;> with_reducible rfl
        try simp only [Act.put, List.setIfInBounds_toArray, List.set_cons_zero, List.set_cons_succ]
        refine wpAnyH_take (i := 18) (oi := ⟨some 52, _, _, _, _, _⟩) (v := ?_) rfl (by kernel_rfl) (by kernel_rfl) (by kernel_rfl) (fun _ _ _ h => h) (Or.inl ⟨by rfl, ?_⟩) (by assumption) ?_
        rotate_left
        · intro w hSw; (try dsimp only at hSw); go_simp <;> with_reducible rfl
        try simp only [Act.put, List.setIfInBounds_toArray, List.set_cons_zero, List.set_cons_succ]
        refine wpAnyH_take (i := 19) (oi := ⟨some 53, _, _, _, _, _⟩) (v := ?_) rfl (by kernel_rfl) (by kernel_rfl) (by kernel_rfl) (fun _ _ _ h => h) (Or.inl ⟨by rfl, ?_⟩) (by assumption) ?_
        rotate_left
        · intro w hSw; (try dsimp only at hSw); go_simp <;> with_reducible rfl
        try simp only [Act.put, List.setIfInBounds_toArray, List.set_cons_zero, List.set_cons_succ]
        refine wpAnyH_take (i := 20) (oi := ⟨some 54, _, _, _, _, _⟩) (v := ?_) rfl (by kernel_rfl) (by kernel_rfl) (by kernel_rfl) (fun _ _ _ h => h) (Or.inl ⟨by rfl, ?_⟩) (by assumption) ?_
        rotate_left
        · intro w hSw; (try dsimp only at hSw); go_simp <;> with_reducible rfl
        try simp only [Act.put, List.setIfInBounds_toArray, List.set_cons_zero, List.set_cons_succ]
        refine wpAnyH_take (i := 21) (oi := ⟨some 55, _, _, _, _, _⟩) (v := ?_) rfl (by kernel_rfl) (by kernel_rfl) (by kernel_rfl) (fun _ _ _ h => h) (Or.inl ⟨by rfl, ?_⟩) (by assumption) ?_
        rotate_left
        · intro w hSw; (try dsimp only at hSw); go_simp <;> with_reducible rfl
        try simp only [Act.put, List.setIfInBounds_toArray, List.set_cons_zero, List.set_cons_succ]
        refine wpAnyH_take (i := 22) (oi := ⟨some 56, _, _, _, _, _⟩) (v := ?_) rfl (by kernel_rfl) (by kernel_rfl) (by kernel_rfl) (fun _ _ _ h => h) (Or.inl ⟨by rfl, ?_⟩) (by assumption) ?_
        rotate_left
        · intro w hSw; (try dsimp only at hSw); go_simp <;> with_reducible rfl
        try simp only [Act.put, List.setIfInBounds_toArray, List.set_cons_zero, List.set_cons_succ]
        refine wpAnyH_take (i := 23) (oi := ⟨some 57, _, _, _, _, _⟩) (v := ?_) rfl (by kernel_rfl) (by kernel_rfl) (by kernel_rfl) (fun _ _ _ h => h) (Or.inl ⟨by rfl, ?_⟩) (by assumption) ?_
        rotate_left
        · intro w hSw; (try dsimp only at hSw); go_simp <;> with_reducible rfl
        try simp only [Act.put, List.setIfInBounds_toArray, List.set_cons_zero, List.set_cons_succ]
        refine wpAnyH_take (i := 24) (oi := ⟨some 58, _, _, _, _, _⟩) (v := ?_) rfl (by kernel_rfl) (by kernel_rfl) (by kernel_rfl) (fun _ _ _ h => h) (Or.inl ⟨by rfl, ?_⟩) (by assumption) ?_
        rotate_left
        · intro w hSw; (try dsimp only at hSw); go_simp <;> with_reducible rfl
        try simp only [Act.put, List.setIfInBounds_toArray, List.set_cons_zero, List.set_cons_succ]
        refine wpAnyH_take (i := 25) (oi := ⟨some 59, _, _, _, _, _⟩) (v := ?_) rfl (by kernel_rfl) (by kernel_rfl) (by kernel_rfl) (fun _ _ _ h => h) (Or.inl ⟨by rfl, ?_⟩) (by assumption) ?_
        rotate_left
        · intro w hSw; (try dsimp only at hSw); go_simp <;> with_reducible rfl
        try simp only [Act.put, List.setIfInBounds_toArray, List.set_cons_zero, List.set_cons_succ]
        refine wpAnyH_take (i := 26) (oi := ⟨some 60, _, _, _, _, _⟩) (v := ?_) rfl (by kernel_rfl) (by kernel_rfl) (by kernel_rfl) (fun _ _ _ h => h) (Or.inl ⟨by rfl, ?_⟩) (by assumption) ?_
        rotate_left
        · intro w hSw; (try dsimp only at hSw); go_simp <;> with_reducible rfl
        try simp only [Act.put, List.setIfInBounds_toArray, List.set_cons_zero, List.set_cons_succ]
        refine wpAnyH_take (i := 27) (oi := ⟨some 61, _, _, _, _, _⟩) (v := .bool false) rfl (by kernel_rfl) (by kernel_rfl) (by kernel_rfl) (fun _ _ _ h => h) (Or.inl ⟨by rfl, ?_⟩) (by assumption) ?_
        · intro w hSw; (try dsimp only at hSw); go_simp <;> (first | with_reducible rfl | rfl | (simp; omega) | omega)
        try simp only [Act.put, List.setIfInBounds_toArray, List.set_cons_zero, List.set_cons_succ]
        refine wpAnyH_take (i := 28) (oi := ⟨some 62, _, _, _, _, _⟩) (v := ?_) rfl (by kernel_rfl) (by kernel_rfl) (by kernel_rfl) (fun _ _ _ h => h) (Or.inl ⟨by rfl, ?_⟩) (by assumption) ?_
        rotate_left
        · intro w hSw; (try dsimp only at hSw); go_simp <;> with_reducible rfl
        try simp only [Act.put, List.setIfInBounds_toArray, List.set_cons_zero, List.set_cons_succ]
        refine wpAnyH_take (i := 29) (oi := ⟨some 63, _, _, _, _, _⟩) (v := ?_) rfl (by kernel_rfl) (by kernel_rfl) (by kernel_rfl) (fun _ _ _ h => h) (Or.inl ⟨by rfl, ?_⟩) (by assumption) ?_
        rotate_left
        · intro w hSw; (try dsimp only at hSw); go_simp <;> with_reducible rfl
        try simp only [Act.put, List.setIfInBounds_toArray, List.set_cons_zero, List.set_cons_succ]
        refine wpAnyH_done (by kernel_rfl) ?_ _
        rotate_left
        all_goals
          go_wp2_with fail
          go_roundw
          case rel => exact ⟨i + 1, by omega, by go_num, hid (HZ.out.drew.setCell (p := ⟨b, q, none⟩) (Nat.le_refl _) _), hid ⟨_, (show Blk wr.drew b 4 cs from HBX.out).set_ q (.bool true), step_b HCX.out HQ.out hqn⟩⟩
          case measure => simp [intOf]; omega
    · obtain rfl : i = N := by omega
      have i1 : ¬ (i : Int) < (i : Int) := by omega
      obtain ⟨cs, hb, hcs⟩ := HC.out
      have HCX := hid hcs
      have HBX := hid hb
      clear hb hcs
      have ZW := hid (show Below w2.heap.size w2 wr by rw [HBB.out]; exact HZ.out)
      go_wp2_with fail
      refine (same_ints A2 _ 1 _ _ [0] _ (by omega) (T2.out.below (bnew ZW.out _)) (Sl.fresh' wr #[.int .i64 0] 3 1 1 _ rfl rfl)).mono ?_
      rintro e w6 ⟨rfl, z6⟩
      have B6 := hid ((HBX.out.alloc _).below' z6)
      have Z6 := hid (bgo Z2.out (bgo (bnew ZW.out _) z6))
      clear z6
      go_wp2_with fail
      go_ret2
      refine ⟨_, _, rfl, Z6.out, fun q hq => ⟨_, rfl, ?_⟩⟩
      have h1 := (B6.out.cell q).trans (HCX.out q hq)
      have h2 : decide (q ∈ xs.take i) = meantB ns ms q := by
        rw [List.take_of_length_le (by rw [HN.out]; exact Nat.le_refl _)]
        have := HXM.out q
        by_cases hm : meantB ns ms q = true
        · rw [hm]; exact decide_eq_true (this.2 ⟨hq, hm⟩)
        · rw [decide_eq_false (fun h => hm (this.1 h).2)]; simpa using hm
      rw [h2] at h1
      rw [show (⟨b, 0, none⟩ : Addr).add q = ⟨b, q, none⟩ by unfold Addr.add; simp only [Nat.zero_add]; split <;> simp_all]
      exact h1
end Go.Proofs.Ytfdgklfkpofkeaa
