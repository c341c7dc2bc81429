/-
  barographkeep.Sequence: its walk.
-/
import Derived.Test.YtfdgklfkpofkeaaLnTell
import Derived.StillTailTactics
namespace Go.Proofs.Ytfdgklfkpofkeaa
open Go.RowKit Go.Maps
set_option linter.unusedVariables false

theorem wp_still9 {P : Program} {id : Nat} {Q : Exit → Act → World → Prop} {a : Act} {w : World} {l : List Oper} (n : Nat) (hm : P.follows .mixedOrders = true) (hB : Region.lexTailB .any l.toArray n = true)
    (h : wpStill P l.toArray w.drew (fun a' => wpList P l.toArray Q (l.drop n) a' w.drew) (l.take n) a) : (Code.region id l.toArray true).wp P Q a w := wp_region_still_tail n hm hB h
theorem pickedS (a n q : Int) (w : World) (hq : (pk a n : Int) = q) (h : 1 ≤ n) (ha : -9223372036854775808 ≤ a) (ha1 : a ≤ 9223372036854775807) (hn : n ≤ 4611686018427387904) :
    Calls Try.prog 11 #[.int .i64 a, .int .i64 n] w fun e w' => e = .returned (.int .i64 q) ∧ w' = w := (picked a n w h ha ha1 hn).mono fun e w' h => ⟨by rw [← hq]; exact h.1, h.2.symm⟩
abbrev gD : VDeal → List Value := fun x => [.bool x.put, .int .i64 x.val, .int .i64 x.early, .int .i64 x.late, .bool x.opn]
def I64 (x : Int) : Prop := -9223372036854775808 ≤ x ∧ x ≤ 9223372036854775807
structure DealsAt (w : World) (A : Option Addr) (n : Nat) (ds : List VDeal) : Prop where
  len : ds.length = n
  sl : Sl w 5 A n (ds.flatMap gD)
  ok : ∀ x ∈ ds, I64 x.val ∧ I64 x.early ∧ I64 x.late
theorem DealsAt.below {w w' : World} {A : Option Addr} {n : Nat} {ds : List VDeal} (h : DealsAt w A n ds) (hb : Below w.heap.size w w') : DealsAt w' A n ds := ⟨h.len, h.sl.below hb, h.ok⟩
theorem DealsAt.at_ {w : World} {A : Option Addr} {n : Nat} {ds : List VDeal} (h : DealsAt w A n ds) {k : Nat} (hk : k < n) :
    ∃ ad x, A = some ad ∧ ds[k]? = some x ∧ (I64 x.val ∧ I64 x.early ∧ I64 x.late) ∧ w.cell? (ad.add (k * 5)) = some (.bool x.put) ∧ w.cell? ⟨(ad.add (k * 5)).block, (ad.add (k * 5)).off + 1, none⟩ = some (.int .i64 x.val)
      ∧ w.cell? ⟨(ad.add (k * 5)).block, (ad.add (k * 5)).off + 2, none⟩ = some (.int .i64 x.early) ∧ w.cell? ⟨(ad.add (k * 5)).block, (ad.add (k * 5)).off + 3, none⟩ = some (.int .i64 x.late) ∧ w.cell? ⟨(ad.add (k * 5)).block, (ad.add (k * 5)).off + 4, none⟩ = some (.bool x.opn) := by
  obtain ⟨ad, e, hc⟩ := h.sl.2 (by omega)
  have hl := h.len
  have ha : ds[k]? = some ds[k] := List.getElem?_eq_getElem (by omega)
  have F := fun (j : Nat) (hj : j < 5) (u : Value) (hu : (gD ds[k])[j]? = some u) => hc (k * 5 + j) u (by rw [flatMap_at gD 5 (fun _ => rfl) ds k j _ ha hj]; exact hu)
  exact ⟨ad, ds[k], e, ha, h.ok _ (List.mem_of_getElem? ha), F 0 (by decide) _ rfl, cell_next (by decide) (F 1 (by decide) _ rfl), cell_next (by decide) (F 2 (by decide) _ rfl), cell_next (by decide) (F 3 (by decide) _ rfl), cell_next (by decide) (F 4 (by decide) _ rfl)⟩
theorem init_small {kd : Nat} (hk : kd < 4) {first : Int} (h : 0 ≤ first ∧ first ≤ 4) : (LO.init kd first).small 0 := by
  have hkk : kd = 0 ∨ kd = 1 ∨ kd = 2 ∨ kd = 3 := by omega
  rcases hkk with rfl | rfl | rfl | rfl
  · exact h
  · exact ⟨h.1, by have := h.2; omega⟩
  · exact ⟨Nat.le_refl _, by simp⟩
  · exact ⟨Nat.le_refl _, by simp⟩
/-- what a round of Sequence keeps -/
structure SqR (w wr : World) (o0 : LO) (wide : Bool) (ds : List VDeal) (k : Nat) (Ah : Option Addr) (nh ch : Nat) (Ao : Option Addr) (co : Nat) : Prop where
  bel : Below w.heap.size w wr
  has : ISl wr Ah nh (stL o0 (ds.take k)).has
  h1 : nh ≤ ch
  h2 : ch ≤ maxLen
  h3 : nh ≤ k + 1
  out : Ow w wr 32 5 gA (.slice Ao k co) (seqL wide o0 0 (ds.take k))
set_option maxRecDepth 100000 in
set_option maxHeartbeats 16000000 in
theorem seq_of (kd : Nat) (first : Int) (wide : Bool) (A : Option Addr) (n c : Nat) (ds : List VDeal) (w : World) (hk : kd < 4) (hf : 0 ≤ first ∧ first ≤ 4) (h : DealsAt w A n ds) :
    Calls Try.prog 13 #[.int .i64 ((kd : Int) + 1), .int .i64 first, .slice A n c, .bool wide] w fun e w' => ∃ A' c', e = .returned (.slice A' (min n 9) c') ∧ Ow w w' 32 5 gA (.slice A' (min n 9) c') (seqL wide (LO.init kd first) 0 (ds.take 9)) := by
  have H := hid h; clear h
  have HKD := hid (init_kd hk first)
  have HSM := hid (init_small hk hf)
  obtain ⟨o0, ho0⟩ : ∃ o0, LO.init kd first = o0 := ⟨_, rfl⟩
  have HST0 : Hid (∃ (Ah : Option Addr) (nh ch : Nat), (if 2 ≤ kd then Value.slice none 0 0 else .slice (some ⟨w.heap.size, 0, none⟩) 1 1) = .slice Ah nh ch ∧ SqR w (w.alloc (.cells #[.int .i64 first] 3)) o0 wide ds 0 Ah nh ch none 0) := by
    refine hid ?_
    by_cases h2 : 2 ≤ kd
    · rw [if_pos h2]
      have : kd = 2 ∨ kd = 3 := by omega
      refine ⟨_, _, _, rfl, bnew (bnil w) _, ?_, Nat.le_refl _, by simp [maxLen], by omega, Ow.nil' (bnew (bnil w) _) _ _ _⟩
      rw [← ho0]
      rcases this with rfl | rfl <;> exact ISl.nil _ _
    · rw [if_neg h2]
      have : kd = 0 ∨ kd = 1 := by omega
      refine ⟨_, _, _, rfl, bnew (bnil w) _, ?_, Nat.le_refl _, by simp [maxLen], by omega, Ow.nil' (bnew (bnil w) _) _ _ _⟩
      rw [← ho0]
      rcases this with rfl | rfl <;> exact ISl.fresh w first
  have hnl := H.out.len
  rw [ho0] at HKD HSM ⊢
  clear ho0 hnl
  have hq2 : decide ((2 : Int) < (kd : Int) + 1) = decide (2 ≤ kd) := by simp; omega
  go_enter Try.func13, Try.ntmps13
  go_upto_if 19 with fail
  go_cut [9] (fun v wx => v = (if 2 ≤ kd then Value.slice none 0 0 else .slice (some ⟨w.heap.size, 0, none⟩) 1 1) ∧ wx = w.alloc (.cells #[.int .i64 first] 3))
  case first =>
    by_cases h2 : 2 ≤ kd
    · have i1 : (2 : Int) < (kd : Int) + 1 := by omega
      go_wp2_with fail
      go_meet
      exact ⟨by rw [if_pos h2], rfl⟩
    · have i1 : ¬ (2 : Int) < (kd : Int) + 1 := by omega
      go_wp2_with fail
      go_meet
      exact ⟨by rw [if_neg h2], rfl⟩
  case rest =>
    obtain ⟨hv9, hwc⟩ := hcut
    subst hv9
    subst hwc
    obtain ⟨Ah, nh, ch, hhas, hsq⟩ := HST0.out
    rw [hhas]
    have HSQ := hid hsq
    have HHQ := hid hhas
    clear hsq hhas HST0
    go_wp2_with fail
    go_loopw [9, 10, 11] (fun v9 v10 q wr => ∃ (k : Nat) (Ah : Option Addr) (nh ch : Nat) (Ao : Option Addr) (co : Nat), k ≤ n ∧ k ≤ 9 ∧ v9 = .slice Ah nh ch ∧ v10 = .slice Ao k co ∧ q = .int .i64 k ∧ Hid (SqR w wr o0 wide ds k Ah nh ch Ao co)) (fun _ _ q _ => 9 - (intOf q).toNat)
    case atStart => exact ⟨0, Ah, nh, ch, none, 0, Nat.zero_le _, Nat.zero_le _, rfl, rfl, rfl, HSQ⟩
    case round =>
      clear HSQ
      obtain ⟨k, Ah, nh, ch, Ao, co, hkn, hk9, rfl, rfl, rfl, HR⟩ := hrel
      by_cases hlt : k < n ∧ k < 9
      · obtain ⟨hlt, hlt9⟩ := hlt
        have i1 : (k : Int) < (n : Int) := by omega
        have i2 : (k : Int) < 9 := by omega
        obtain ⟨ad, x, rfl, hx, hxo, f0, f1, f2, f3, f4⟩ := (H.out.below HR.out.bel).at_ hlt
        have HXO := hid hxo
        have HX := hid hx
        clear hx hxo
        obtain ⟨st, hst⟩ : ∃ st, stL o0 (ds.take k) = st := ⟨_, rfl⟩
        have htl : (ds.take k).length = k := by rw [List.length_take]; have := H.out.len; omega
        have HST := hid (show st.kd = kd ∧ st.small k from by
          have := stL_small (ds.take k) o0 0 HSM.out
          rw [hst, htl, Nat.zero_add] at this
          exact ⟨this.2.trans HKD.out, this.1⟩)
        have HP4 := hid (pk4 x.val)
        obtain ⟨p4, hp4⟩ : ∃ p4 : Int, (pk x.val 4 : Int) = p4 := ⟨_, rfl⟩
        have HPK := hid hp4
        rw [hp4] at HP4
        have HHA := hid (show ISl wr Ah nh st.has from by have := HR.out.has; rw [hst] at this; exact this)
        have hnh := HR.out.h1
        have hch := HR.out.h2
        have hnk := HR.out.h3
        have HSTE := hid hst
        have HTL := hid htl
        have HS8 := hid (fun w' (hb : Below wr.heap.size wr w') => show w'.cell? (ad.add (k * 5)) = some (.bool x.put) ∧ w'.cell? ⟨(ad.add (k * 5)).block, (ad.add (k * 5)).off + 1, none⟩ = some (.int .i64 x.val) from ⟨cell_below hb f0, cell_below hb f1⟩)
        clear hst htl hp4
        go_upto_region 8 with fail
        refine wp_region_held_drew (S := (fun w' => w'.cell? (ad.add (k * 5)) = some (.bool x.put) ∧ w'.cell? ⟨(ad.add (k * 5)).block, (ad.add (k * 5)).off + 1, none⟩ = some (.int .i64 x.val))) (by kernel_rfl) ?_ (fun hHeld => ?_)
        · (try dsimp only); first | assumption | exact HS8.out _ (bnil _).drew | exact HS8.out _ Z5.out
        refine wpAnyH_take (i := 0) (oi := ⟨some 31, _, _, _, _, _⟩) (v := ?_) rfl (by kernel_rfl) (by kernel_rfl) (by kernel_rfl) (fun _ _ _ h => h) (Or.inl ⟨by rfl, ?_⟩) (by assumption) ?_
        rotate_left
        · intro w hSw; (try dsimp only at hSw); go_simp <;> with_reducible rfl
        try simp only [Act.put, List.setIfInBounds_toArray, List.set_cons_zero, List.set_cons_succ]
        refine wpAnyH_take (i := 1) (oi := ⟨some 32, _, _, _, _, _⟩) (v := ?_) rfl (by kernel_rfl) (by kernel_rfl) (by kernel_rfl) (fun _ _ _ h => h) (Or.inl ⟨by rfl, ?_⟩) (by assumption) ?_
        rotate_left
        · intro w hSw; (try dsimp only at hSw); go_simp <;> with_reducible rfl
        try simp only [Act.put, List.setIfInBounds_toArray, List.set_cons_zero, List.set_cons_succ]
        refine wpAnyH_take (i := 2) (oi := ⟨some 33, _, _, _, _, _⟩) (v := ?_) rfl (by kernel_rfl) (by kernel_rfl) (by kernel_rfl) (fun _ _ _ h => h) (Or.inl ⟨by rfl, ?_⟩) (by assumption) ?_
        rotate_left
        · intro w hSw; (try dsimp only at hSw); go_simp <;> with_reducible rfl
        try simp only [Act.put, List.setIfInBounds_toArray, List.set_cons_zero, List.set_cons_succ]
        refine wpAnyH_take (i := 3) (oi := ⟨some 34, _, _, _, _, _⟩) (v := ?_) rfl (by kernel_rfl) (by kernel_rfl) (by kernel_rfl) (fun _ _ _ h => h) (Or.inl ⟨by rfl, ?_⟩) (by assumption) ?_
        rotate_left
        · intro w hSw; (try dsimp only at hSw); go_simp <;> with_reducible rfl
        try simp only [Act.put, List.setIfInBounds_toArray, List.set_cons_zero, List.set_cons_succ]
        refine wpAnyH_take (i := 4) (oi := ⟨some 35, _, _, _, _, _⟩) (v := ?_) rfl (by kernel_rfl) (by kernel_rfl) (by kernel_rfl) (fun _ _ _ h => h) (Or.inl ⟨by rfl, ?_⟩) (by assumption) ?_
        rotate_left
        · intro w hSw; (try dsimp only at hSw); go_simp <;> with_reducible rfl
        try simp only [Act.put, List.setIfInBounds_toArray, List.set_cons_zero, List.set_cons_succ]
        refine wpAnyH_take (i := 5) (oi := ⟨some 36, _, _, _, _, _⟩) (v := ?_) rfl (by kernel_rfl) (by kernel_rfl) (by kernel_rfl) (fun _ _ _ h => h) (Or.inl ⟨by rfl, ?_⟩) (by assumption) ?_
        rotate_left
        · intro w hSw; (try dsimp only at hSw); go_simp <;> with_reducible rfl
        try simp only [Act.put, List.setIfInBounds_toArray, List.set_cons_zero, List.set_cons_succ]
        refine wpAnyH_take (i := 6) (oi := ⟨some 37, _, _, _, _, _⟩) (v := ?_) rfl (by kernel_rfl) (by kernel_rfl) (by kernel_rfl) (fun _ _ _ h => h) (Or.inl ⟨by rfl, ?_⟩) (by assumption) ?_
        rotate_left
        · intro w hSw; (try dsimp only at hSw); go_simp <;> with_reducible rfl
        try simp only [Act.put, List.setIfInBounds_toArray, List.set_cons_zero, List.set_cons_succ]
        refine wpAnyH_take (i := 7) (oi := ⟨some 38, _, _, _, _, _⟩) (v := ?_) rfl (by kernel_rfl) (by kernel_rfl) (by kernel_rfl) (fun _ _ _ h => h) (Or.inl ⟨by rfl, ?_⟩) (by assumption) ?_
        rotate_left
        · intro w hSw; (try dsimp only at hSw); go_simp <;> with_reducible rfl
        try simp only [Act.put, List.setIfInBounds_toArray, List.set_cons_zero, List.set_cons_succ]
        refine wpAnyH_take (i := 8) (oi := ⟨some 39, _, _, _, _, _⟩) (v := ?_) rfl (by kernel_rfl) (by kernel_rfl) (by kernel_rfl) (fun _ _ _ h => h) (Or.inl ⟨by rfl, ?_⟩) (by assumption) ?_
        rotate_left
        · intro w hSw; (try dsimp only at hSw); go_simp <;> with_reducible rfl
        try simp only [Act.put, List.setIfInBounds_toArray, List.set_cons_zero, List.set_cons_succ]
        refine wpAnyH_take (i := 9) (oi := ⟨some 40, _, _, _, _, _⟩) (v := ?_) rfl (by kernel_rfl) (by kernel_rfl) (by kernel_rfl) (fun _ _ _ h => h) (Or.inl ⟨by rfl, ?_⟩) (by assumption) ?_
        rotate_left
        · intro w hSw; (try dsimp only at hSw); go_simp <;> with_reducible rfl
        try simp only [Act.put, List.setIfInBounds_toArray, List.set_cons_zero, List.set_cons_succ]
        refine wpAnyH_take (i := 10) (oi := ⟨some 41, _, _, _, _, _⟩) (v := ?_) rfl (by kernel_rfl) (by kernel_rfl) (by kernel_rfl) (fun _ _ _ h => h) (Or.inl ⟨by rfl, ?_⟩) (by assumption) ?_
        rotate_left
        · intro w hSw; (try dsimp only at hSw); go_simp <;> with_reducible rfl
        try simp only [Act.put, List.setIfInBounds_toArray, List.set_cons_zero, List.set_cons_succ]
        refine wpAnyH_take (i := 11) (oi := ⟨some 42, _, _, _, _, _⟩) (v := ?_) rfl (by kernel_rfl) (by kernel_rfl) (by kernel_rfl) (fun _ _ _ h => h) (Or.inl ⟨by rfl, ?_⟩) (by assumption) ?_
        rotate_left
        · intro w hSw; (try dsimp only at hSw); go_simp <;> with_reducible rfl
        try simp only [Act.put, List.setIfInBounds_toArray, List.set_cons_zero, List.set_cons_succ]
        refine wpAnyH_ready (rs := [12]) (by kernel_rfl) (by simp) ?_
        refine AllReadyH.cons (o := ⟨some 43, _, _, _, _, _⟩) rfl (fun K hK => ?_) AllReadyH.nil
        go_simp
        (refine (picked x.val 4 _ (by omega) HXO.out.1.1 HXO.out.1.2 (by omega)).mono ?_; rintro e w4 ⟨rfl, rfl⟩)
        go_wp2_with fail
        refine hK.out _ _ ?_ (fun hHeld => ?_)
        · (try dsimp only); first | assumption | exact HS8.out _ (bnil _).drew | exact HS8.out _ Z5.out
        clear hK K
        try simp only [Act.put, List.setIfInBounds_toArray, List.set_cons_zero, List.set_cons_succ]
        refine wpAnyH_ready (rs := [13]) (by kernel_rfl) (by simp) ?_
        refine AllReadyH.cons (o := ⟨some 44, _, _, _, _, _⟩) rfl (fun K hK => ?_) AllReadyH.nil
        go_simp
        (rw [HPK.out]; refine (tell_of st kd k p4 x.put Ah nh ch _ HST.out.1 HST.out.2 (by omega) HP4.out hnh hch (by omega) (HHA.out.below (bnil _).drew)).mono ?_; rintro e w5 ⟨A5, n5, c5, rfl, hn5, hc5, hn5b, hs5, z5⟩; have Z5 := hid (bgo (bnil _).drew z5); have HS5 := hid hs5; clear z5 hs5)
        go_wp2_with fail
        refine hK.out _ _ ?_ (fun hHeld => ?_)
        · (try dsimp only); first | assumption | exact HS8.out _ (bnil _).drew | exact HS8.out _ Z5.out
        clear hK K
        try simp only [Act.put, List.setIfInBounds_toArray, List.set_cons_zero, List.set_cons_succ]
        refine wpAnyH_take (i := 14) (oi := ⟨some 30, _, _, _, _, _⟩) (v := ?_) rfl (by kernel_rfl) (by kernel_rfl) (by kernel_rfl) (fun _ _ _ h => h) (Or.inl ⟨by rfl, ?_⟩) (by assumption) ?_
        rotate_left
        · intro w hSw; (try dsimp only at hSw); go_simp <;> with_reducible rfl
        try simp only [Act.put, List.setIfInBounds_toArray, List.set_cons_zero, List.set_cons_succ]
        refine wpAnyH_take (i := 15) (oi := ⟨some 45, _, _, _, _, _⟩) (v := ?_) rfl (by kernel_rfl) (by kernel_rfl) (by kernel_rfl) (fun _ _ _ h => h) (Or.inl ⟨by rfl, ?_⟩) (by assumption) ?_
        rotate_left
        · intro w hSw; (try dsimp only at hSw); go_simp <;> with_reducible rfl
        try simp only [Act.put, List.setIfInBounds_toArray, List.set_cons_zero, List.set_cons_succ]
        refine wpAnyH_take (i := 16) (oi := ⟨some 46, _, _, _, _, _⟩) (v := ?_) rfl (by kernel_rfl) (by kernel_rfl) (by kernel_rfl) (fun _ _ _ h => h) (Or.inl ⟨by rfl, ?_⟩) (by assumption) ?_
        rotate_left
        · intro w hSw; (try dsimp only at hSw); go_simp <;> with_reducible rfl
        try simp only [Act.put, List.setIfInBounds_toArray, List.set_cons_zero, List.set_cons_succ]
        refine wpAnyH_take (i := 17) (oi := ⟨some 47, _, _, _, _, _⟩) (v := ?_) rfl (by kernel_rfl) (by kernel_rfl) (by kernel_rfl) (fun _ _ _ h => h) (Or.inl ⟨by rfl, ?_⟩) (by assumption) ?_
        rotate_left
        · intro w hSw; (try dsimp only at hSw); go_simp <;> with_reducible rfl
        try simp only [Act.put, List.setIfInBounds_toArray, List.set_cons_zero, List.set_cons_succ]
        refine wpAnyH_take (i := 18) (oi := ⟨some 12, _, _, _, _, _⟩) (v := ?_) rfl (by kernel_rfl) (by kernel_rfl) (by kernel_rfl) (fun _ _ _ h => h) (Or.inl ⟨by rfl, ?_⟩) (by assumption) ?_
        rotate_left
        · intro w hSw; (try dsimp only at hSw); go_simp <;> with_reducible rfl
        try simp only [Act.put, List.setIfInBounds_toArray, List.set_cons_zero, List.set_cons_succ]
        refine wpAnyH_take (i := 19) (oi := ⟨some 13, _, _, _, _, _⟩) (v := ?_) rfl (by kernel_rfl) (by kernel_rfl) (by kernel_rfl) (fun _ _ _ h => h) (Or.inl ⟨by rfl, ?_⟩) (by assumption) ?_
        rotate_left
        · intro w hSw; (try dsimp only at hSw); go_simp <;> with_reducible rfl
        try simp only [Act.put, List.setIfInBounds_toArray, List.set_cons_zero, List.set_cons_succ]
        refine wpAnyH_take (i := 20) (oi := ⟨some 14, _, _, _, _, _⟩) (v := ?_) rfl (by kernel_rfl) (by kernel_rfl) (by kernel_rfl) (fun _ _ _ h => h) (Or.inl ⟨by rfl, ?_⟩) (by assumption) ?_
        rotate_left
        · intro w hSw; (try dsimp only at hSw); go_simp <;> with_reducible rfl
        try simp only [Act.put, List.setIfInBounds_toArray, List.set_cons_zero, List.set_cons_succ]
        refine wpAnyH_done (by kernel_rfl) ?_ _
        rotate_left
        obtain ⟨tv, htv⟩ : ∃ tv, (st.tell x.put p4).2.1 = tv := ⟨_, rfl⟩
        obtain ⟨ty, hty⟩ : ∃ ty, (st.tell x.put p4).2.2 = ty := ⟨_, rfl⟩
        obtain ⟨X, hX⟩ : ∃ X, w5.heap.size = X := ⟨_, rfl⟩
        rw [htv, hty]
        have HTV := hid htv
        have HTY := hid hty
        have HX5 := hid hX
        clear htv hty hX
        have q0 := cell_below Z5.out f0
        have q2 := cell_below Z5.out f2
        have q3 := cell_below Z5.out f3
        have q4 := cell_below Z5.out f4
        clear f0 f1 f2 f3 f4 hHeld
        obtain ⟨W6, hW6⟩ : ∃ W6, w5.alloc (.cells #[.int .i64 (100 + 10 * (k : Int)), .int .i64 (105 + 10 * (k : Int)), .bool x.put, .int .i64 tv, .int .i64 ty] 32) = W6 := ⟨_, rfl⟩
        have HW6 := hid hW6
        have B6 := hid (show Blk W6 X 32 #[.int .i64 (100 + 10 * (k : Int)), .int .i64 (105 + 10 * (k : Int)), .bool x.put, .int .i64 tv, .int .i64 ty] by rw [← hW6, ← HX5.out]; exact Blk.new _ _ _)
        have Z6 := hid (show Below w5.heap.size w5 W6 by rw [← hW6]; exact bnew (bnil w5) _)
        clear hW6
        have r2 := cell_below Z6.out q2
        have r3 := cell_below Z6.out q3
        have r4 := cell_below Z6.out q4
        have s0 := B6.out.cell 0
        have s1 := B6.out.cell 1
        have s0f := B6.out.frozen 0
        have s1f := B6.out.frozen 1
        have hadX : X ≠ ad.block := by
          have h1 := World.block_lt_of_cell? _ _ q0
          rw [ad_block, HX5.out] at h1
          omega
        have HAX := hid (show (ad.add (k * 5)).block ≠ X by rw [ad_block]; exact fun e => hadX e.symm)
        cases wide with
        | true =>
          obtain ⟨qE, hqE⟩ : ∃ qE : Int, (pk x.early 40 : Int) = qE := ⟨_, rfl⟩
          obtain ⟨qL, hqL⟩ : ∃ qL : Int, (pk x.late 40 : Int) = qL := ⟨_, rfl⟩
          have hE0 : 0 ≤ qE := by rw [← hqE]; exact (pk40 _).1
          have hE1 : qE ≤ 39 := by rw [← hqE]; exact (pk40 _).2
          have hL0 : 0 ≤ qL := by rw [← hqL]; exact (pk40 _).1
          have hL1 : qL ≤ 39 := by rw [← hqL]; exact (pk40 _).2
          have HQE := hid hqE
          have HQL := hid hqL
          clear hqE hqL
          obtain ⟨W7, hW7⟩ : ∃ W7, (W6.setCell ⟨X, 0, none⟩ (.int .i64 (100 + 10 * (k : Int) - qE))).drew = W7 := ⟨_, rfl⟩
          have HW7 := hid hW7
          have B7 := hid (show Blk W7 X 32 #[.int .i64 (100 + 10 * (k : Int) - qE), .int .i64 (105 + 10 * (k : Int)), .bool x.put, .int .i64 tv, .int .i64 ty] by rw [← hW7]; exact B6.out.set_ 0 _)
          have Z7 := hid (show Below w5.heap.size w5 W7 by rw [← hW7]; exact (Z6.out.setCell (p := ⟨X, 0, none⟩) (by rw [HX5.out]; exact Nat.le_refl _) _).drew)
          obtain ⟨W8, hW8⟩ : ∃ W8, (W7.setCell ⟨X, 1, none⟩ (.int .i64 (105 + 10 * (k : Int) + qL))).drew = W8 := ⟨_, rfl⟩
          have HW8 := hid hW8
          have B8 := hid (show Blk W8 X 32 #[.int .i64 (100 + 10 * (k : Int) - qE), .int .i64 (105 + 10 * (k : Int) + qL), .bool x.put, .int .i64 tv, .int .i64 ty] by rw [← hW8]; exact B7.out.set_ 1 _)
          have Z8 := hid (show Below w5.heap.size w5 W8 by rw [← hW8]; exact (Z7.out.setCell (p := ⟨X, 1, none⟩) (by rw [HX5.out]; exact Nat.le_refl _) _).drew)
          clear hW7 hW8
          go_upto_region 12 with fail
          rw [HW6.out]
          simp only [HX5.out]
          refine wp_still9 10 (by kernel_rfl) (by kernel_rfl) ?_
          simp only [List.take_succ_cons, List.take_zero, List.drop_succ_cons, List.drop_zero]
          repeat still_step
          still_call (pickedS x.early 40 qE _ HQE.out (by omega) HXO.out.2.1.1 HXO.out.2.1.2 (by omega))
          repeat still_step
          refine wpStill_nil ?_
          go_upto_region 13 with fail
          rw [HW7.out]
          clear r2 r3 r4 s0 s1 s0f s1f
          have r3 := cell_below Z7.out q3
          have s1 := B7.out.cell 1
          have s1f := B7.out.frozen 1
          refine wp_still9 10 (by kernel_rfl) (by kernel_rfl) ?_
          simp only [List.take_succ_cons, List.take_zero, List.drop_succ_cons, List.drop_zero]
          repeat still_step
          still_call (pickedS x.late 40 qL _ HQL.out (by omega) HXO.out.2.2.1 HXO.out.2.2.2 (by omega))
          repeat still_step
          refine wpStill_nil ?_
          go_upto_region 14 with fail
          rw [HW8.out]
          clear r3 s1 s1f q0 q2 q3
          have r4 := cell_below Z8.out q4
          have s1f := B8.out.frozen 1
          cases hop : x.opn with
          | true =>
            rw [hop] at r4 q4
            have HOP := hid hop
            clear hop
            have B9 := hid (show Blk (W8.setCell ⟨X, 1, none⟩ (.int .i64 (-1))) X 32 #[.int .i64 (100 + 10 * (k : Int) - qE), .int .i64 (-1), .bool x.put, .int .i64 tv, .int .i64 ty] from B8.out.set_ 1 (.int .i64 (-1)))
            have Z9 := hid (Z8.out.setCell (p := ⟨X, 1, none⟩) (by rw [HX5.out]; exact Nat.le_refl _) (.int .i64 (-1)))
            have HACT := hid (show seqAct true k x tv ty = ⟨100 + 10 * (k : Int) - qE, -1, x.put, tv, ty⟩ by unfold seqAct; rw [if_pos rfl, if_pos rfl, if_pos HOP.out, HQE.out])
            have u0 := B8.out.cell 0
            have u1 := B8.out.cell 1
            have u2 := B8.out.cell 2
            have u3 := B8.out.cell 3
            have u4 := B8.out.cell 4
            obtain ⟨WZ, hWZ⟩ : ∃ WZ, W8.setCell ⟨X, 1, none⟩ (.int .i64 (-1)) = WZ := ⟨_, rfl⟩
            rw [hWZ] at B9 Z9
            have hout := HR.out.out.step (bgo Z5.out Z9.out)
            have HOUT := hid hout
            have hsL := seqL_length true (ds.take k) o0 0
            rw [HTL.out] at hsL
            have HSL := hid hsL
            clear hout hsL
            obtain ⟨y, hy⟩ : ∃ y, seqL true o0 0 (ds.take k) ++ [(⟨100 + 10 * (k : Int) - qE, -1, x.put, tv, ty⟩ : LA)] = y := ⟨_, rfl⟩
            have HY := hid hy
            have HYL := hid (show y.length = k + 1 by rw [← hy, List.length_append, HSL.out]; rfl)
            clear hy
            subst hWZ
            go_wp2_with (at_builtin; refine wpList_appY elmA gA_one rfl (.tmp 90) (.tmp 92) rfl (.slice Ao k co) (seqL true o0 0 (ds.take k)) rfl (HOUT.out.alloc _) [(⟨100 + 10 * (k : Int) - qE, -1, x.put, tv, ty⟩ : LA)] y HY rfl (Sl.fresh' _ #[_, _, _, _, _] 32 5 1 _ (by first | rfl | simp [World.setCell]) rfl) rfl (by rw [HYL.out]; simp only [maxLen]; omega) (by rw [HYL.out]; omega) ?_; intro A7 c7 w7 hc7 hc8 O7 G7 _)
            have HNEW := hid (show SqR w w7 o0 true ds (k + 1) A5 n5 c5 A7 c7 from by
              have htk := take_next HX.out
              refine ⟨O7.out.below, ?_, hn5, hc5, by omega, ?_⟩
              · rw [htk, stL_snoc, HSTE.out, HPK.out]
                have hz := HOUT.out.alloc (.cells #[.int .i64 (100 + 10 * (k : Int) - qE), .int .i64 (-1), .bool x.put, .int .i64 tv, .int .i64 ty] 32)
                exact (HS5.out.below (bgo Z9.out (bnew (bnil _) _))).keep fun g cs hg => (G7.out.block g hg.lt fun e => own_ne_blk hz.own hg (by decide) e.symm).trans hg
              · rw [htk, seqL_snoc, HTL.out, HSTE.out, HPK.out, HTV.out, HTY.out, Nat.zero_add, HACT.out, HY.out]
                have := O7.out
                rw [HYL.out] at this
                exact this)
            rw [HYL.out]
            clear O7 G7
            go_roundw
            case rel => exact ⟨k + 1, A5, n5, c5, A7, c7, by omega, by omega, rfl, rfl, by go_num, HNEW⟩
            case measure => simp [intOf]; omega
          | false =>
            rw [hop] at r4 q4
            have HOP := hid hop
            clear hop
            have HACT := hid (show seqAct true k x tv ty = ⟨100 + 10 * (k : Int) - qE, 105 + 10 * (k : Int) + qL, x.put, tv, ty⟩ by unfold seqAct; rw [if_pos rfl, if_pos rfl, if_neg (by rw [HOP.out]; decide), HQE.out, HQL.out])
            have B9 := hid B8.out
            have Z9 := hid Z8.out
            go_upto_region 16 with fail
            obtain ⟨WZ, hWZ⟩ : ∃ WZ, W8 = WZ := ⟨_, rfl⟩
            rw [hWZ] at B9 Z9
            have hout := HR.out.out.step (bgo Z5.out Z9.out)
            have HOUT := hid hout
            have hsL := seqL_length true (ds.take k) o0 0
            rw [HTL.out] at hsL
            have HSL := hid hsL
            clear hout hsL
            obtain ⟨y, hy⟩ : ∃ y, seqL true o0 0 (ds.take k) ++ [(⟨100 + 10 * (k : Int) - qE, 105 + 10 * (k : Int) + qL, x.put, tv, ty⟩ : LA)] = y := ⟨_, rfl⟩
            have HY := hid hy
            have HYL := hid (show y.length = k + 1 by rw [← hy, List.length_append, HSL.out]; rfl)
            have t0 := B9.out.cell 0
            have t1 := B9.out.cell 1
            have t2 := B9.out.cell 2
            have t3 := B9.out.cell 3
            have t4 := B9.out.cell 4
            clear hy
            go_wp2_with (at_builtin; refine wpList_appY elmA gA_one rfl (.tmp 90) (.tmp 92) rfl (.slice Ao k co) (seqL true o0 0 (ds.take k)) rfl (HOUT.out.alloc _) [(⟨100 + 10 * (k : Int) - qE, 105 + 10 * (k : Int) + qL, x.put, tv, ty⟩ : LA)] y HY rfl (Sl.fresh' _ #[_, _, _, _, _] 32 5 1 _ (by first | rfl | simp [World.setCell]) rfl) rfl (by rw [HYL.out]; simp only [maxLen]; omega) (by rw [HYL.out]; omega) ?_; intro A7 c7 w7 hc7 hc8 O7 G7 _)
            have HNEW := hid (show SqR w w7 o0 true ds (k + 1) A5 n5 c5 A7 c7 from by
              have htk := take_next HX.out
              refine ⟨O7.out.below, ?_, hn5, hc5, by omega, ?_⟩
              · rw [htk, stL_snoc, HSTE.out, HPK.out]
                have hz := HOUT.out.alloc (.cells #[.int .i64 (100 + 10 * (k : Int) - qE), .int .i64 (105 + 10 * (k : Int) + qL), .bool x.put, .int .i64 tv, .int .i64 ty] 32)
                exact (HS5.out.below (bgo Z9.out (bnew (bnil _) _))).keep fun g cs hg => (G7.out.block g hg.lt fun e => own_ne_blk hz.own hg (by decide) e.symm).trans hg
              · rw [htk, seqL_snoc, HTL.out, HSTE.out, HPK.out, HTV.out, HTY.out, Nat.zero_add, HACT.out, HY.out]
                have := O7.out
                rw [HYL.out] at this
                exact this)
            rw [HYL.out]
            clear O7 G7
            go_roundw
            case rel => exact ⟨k + 1, A5, n5, c5, A7, c7, by omega, by omega, rfl, rfl, by go_num, HNEW⟩
            case measure => simp [intOf]; omega
        | false =>
          go_upto_region 16 with fail
          rw [HW6.out]
          simp only [HX5.out]
          have B9 := hid B6.out
          have Z9 := hid Z6.out
          have HACT := hid (show seqAct false k x tv ty = ⟨100 + 10 * (k : Int), 105 + 10 * (k : Int), x.put, tv, ty⟩ by unfold seqAct; rw [if_neg (by decide), if_neg (by decide), Int.sub_zero])
          obtain ⟨WZ, hWZ⟩ : ∃ WZ, W6 = WZ := ⟨_, rfl⟩
          rw [hWZ] at B9 Z9
          have hout := HR.out.out.step (bgo Z5.out Z9.out)
          have HOUT := hid hout
          have hsL := seqL_length false (ds.take k) o0 0
          rw [HTL.out] at hsL
          have HSL := hid hsL
          clear hout hsL
          obtain ⟨y, hy⟩ : ∃ y, seqL false o0 0 (ds.take k) ++ [(⟨100 + 10 * (k : Int), 105 + 10 * (k : Int), x.put, tv, ty⟩ : LA)] = y := ⟨_, rfl⟩
          have HY := hid hy
          have HYL := hid (show y.length = k + 1 by rw [← hy, List.length_append, HSL.out]; rfl)
          have t0 := B9.out.cell 0
          have t1 := B9.out.cell 1
          have t2 := B9.out.cell 2
          have t3 := B9.out.cell 3
          have t4 := B9.out.cell 4
          clear hy
          go_wp2_with (at_builtin; refine wpList_appY elmA gA_one rfl (.tmp 90) (.tmp 92) rfl (.slice Ao k co) (seqL false o0 0 (ds.take k)) rfl (HOUT.out.alloc _) [(⟨100 + 10 * (k : Int), 105 + 10 * (k : Int), x.put, tv, ty⟩ : LA)] y HY rfl (Sl.fresh' _ #[_, _, _, _, _] 32 5 1 _ (by first | rfl | simp [World.setCell]) rfl) rfl (by rw [HYL.out]; simp only [maxLen]; omega) (by rw [HYL.out]; omega) ?_; intro A7 c7 w7 hc7 hc8 O7 G7 _)
          have HNEW := hid (show SqR w w7 o0 false ds (k + 1) A5 n5 c5 A7 c7 from by
            have htk := take_next HX.out
            refine ⟨O7.out.below, ?_, hn5, hc5, by omega, ?_⟩
            · rw [htk, stL_snoc, HSTE.out, HPK.out]
              have hz := HOUT.out.alloc (.cells #[.int .i64 (100 + 10 * (k : Int)), .int .i64 (105 + 10 * (k : Int)), .bool x.put, .int .i64 tv, .int .i64 ty] 32)
              exact (HS5.out.below (bgo Z9.out (bnew (bnil _) _))).keep fun g cs hg => (G7.out.block g hg.lt fun e => own_ne_blk hz.own hg (by decide) e.symm).trans hg
            · rw [htk, seqL_snoc, HTL.out, HSTE.out, HPK.out, HTV.out, HTY.out, Nat.zero_add, HACT.out, HY.out]
              have := O7.out
              rw [HYL.out] at this
              exact this)
          rw [HYL.out]
          clear O7 G7
          go_roundw
          case rel => exact ⟨k + 1, A5, n5, c5, A7, c7, by omega, by omega, rfl, rfl, by go_num, HNEW⟩
          case measure => simp [intOf]; omega
      · have hstop : min n 9 = k := by omega
        have HOUT := hid (show Ow w wr 32 5 gA (.slice Ao k co) (seqL wide o0 0 (ds.take 9)) from by
          have h1 := HR.out.out
          have : ds.take k = ds.take 9 := by
            have hl := H.out.len
            rcases Nat.lt_or_ge k 9 with h | h
            · rw [List.take_of_length_le (show ds.length ≤ k by omega), List.take_of_length_le (by omega)]
            · rw [show k = 9 by omega]
          rwa [this] at h1)
        have HST := hid hstop
        clear hstop
        by_cases hlt1 : k < n
        · have i1 : (k : Int) < (n : Int) := by omega
          have i2 : ¬ (k : Int) < 9 := by omega
          go_wp2_with fail
          refine bodyPost_ret (v := .slice Ao k co) (by simp [results, Try.results13, go_sem]) rfl ?_
          rw [HST.out]
          exact ⟨Ao, co, rfl, HOUT.out⟩
        · have i1 : ¬ (k : Int) < (n : Int) := by omega
          go_wp2_with fail
          refine bodyPost_ret (v := .slice Ao k co) (by simp [results, Try.results13, go_sem]) rfl ?_
          rw [HST.out]
          exact ⟨Ao, co, rfl, HOUT.out⟩
end Go.Proofs.Ytfdgklfkpofkeaa
