/-
  lin's search in memory: found: its walk.
-/
import Derived.Test.YtfdgklfkpofkeaaLnMem
namespace Go.Proofs.Ytfdgklfkpofkeaa
open Go.RowKit Go.Maps
set_option linter.unusedVariables false

theorem or_one : ∀ d < 512, ∀ k < 9, bits BinOp.or .u64 ((d : Nat) : Int) (IntKind.u64.wrap (2 ^ k)) = ((d ||| 1 <<< k : Nat) : Int) := by decide +kernel
theorem or_lt : ∀ d < 512, ∀ k < 9, d ||| 1 <<< k < 512 := by decide +kernel
def kids9 : Nat → Nat
  | 0 => 0
  | r + 1 => calls9 r
theorem kids9_all (r : Nat) : 1 + 9 * kids9 r = calls9 r := by cases r <;> rfl
def FoundPost (W0 w : World) (kd mb N' : Nat) (M : Nat → List (Value × LO)) (l : List LA) (d : Nat) (o : LO) (e : Ending) (w' : World) : Prop :=
  ∃ (b : Bool) (M' : Nat → List (Value × LO)), e = .returned (.bool b) ∧ (b = true ↔ Fnd l d o) ∧ Memo W0 w' kd mb N' M' ∧ Fr W0.heap.size w w' ∧ (b = false → ∀ d' p, p ∈ M' d' → p ∈ M d' ∨ (d ≤ d' ∧ ¬ Fnd l d' p.2))
/-- what a search is asked with -/
structure Ask (W0 w : World) (s : Nat) (A : Option Addr) (n c mb kd : Nat) (l : List LA) (r d N : Nat) (o : LO) (v : Value) (M : Nat → List (Value × LO)) : Prop where
  rest : (restF d 0 l).length ≤ r
  seek : Seek w s A n c mb l
  sl0 : Sl W0 5 A n (l.flatMap gA)
  bel : Below W0.heap.size W0 w
  memo : Memo W0 w kd mb N M
  room : N + calls9 r ≤ 1000000000
  obj : ObjAt w v o
  kd : o.kd = kd
  size : o.size + r ≤ 100
  dead : ∀ d' p, d ≤ d' → p ∈ M d' → ¬ Fnd l d' p.2
set_option maxRecDepth 100000 in
set_option maxHeartbeats 8000000 in
theorem found_all (s : Nat) (A : Option Addr) (n c mb kd : Nat) (l : List LA) (W0 : World) (r d N : Nat) (o : LO) (v : Value) (M : Nat → List (Value × LO)) (w : World) (hd : d < 512) (hA : Ask W0 w s A n c mb kd l r d N o v M)
    (ih : ∀ r' < r, ∀ (d : Nat) (o : LO) (v : Value) (M : Nat → List (Value × LO)) (N : Nat) (w : World), d < 512 → Ask W0 w s A n c mb kd l r' d N o v M →
      Calls Try.prog 23 #[.pointer (some ⟨s, 0, none⟩), .int .u64 (d : Int), v] w (FoundPost W0 w kd mb (N + calls9 r') M l d o)) :
    Calls Try.prog 23 #[.pointer (some ⟨s, 0, none⟩), .int .u64 (d : Int), v] w (FoundPost W0 w kd mb (N + calls9 r) M l d o) := by
  have HA := hid hA; clear hA
  have HIH := hid ih; clear ih
  have H := hid HA.out.seek
  have c0 : w.cell? ⟨s, 0, none⟩ = some (.slice A n c) := H.out.blk.cell 0
  have c1 : w.cell? ⟨s, 1, none⟩ = some (.map (some mb)) := H.out.blk.cell 1
  have hn9 := H.out.most
  obtain ⟨t, uu, F, G, hF⟩ := objF HA.out.obj (by have := HA.out.size; omega)
  have hvt := hF.val
  subst hvt
  have HF := hid hF; clear hF
  have HC0 := hid c0; have HC1 := hid c1
  go_enter Try.func23, Try.ntmps23
  go_wp2
  go_loopw [7, 19] (fun x q wr => ∃ (k : Nat) (bb : Bool), k ≤ n ∧ x = .bool bb ∧ q = .int .i64 k ∧ Hid (Below w.heap.size w wr) ∧ Hid (bb = true ↔ ∀ j b, j < k → l[j]? = some b → b.e = -1 ∨ d.testBit j = true)) (fun x q _ => n - (intOf q).toNat)
  case atStart => exact ⟨0, true, Nat.zero_le _, rfl, rfl, hid (bnil _), hid ⟨fun _ j b h => by omega, fun _ => rfl⟩⟩
  case round =>
    obtain ⟨k, bb, hk, rfl, rfl, HW, HR⟩ := hrel
    have e0 := cell_below HW.out HC0.out
    have e1 := cell_below HW.out HC1.out
    by_cases hlt : k < n
    · obtain ⟨ad, b, rfl, hb, f0, f1, f2, f3, f4⟩ := (H.out.below HW.out).at_ hlt
      have HBK := hid hb
      clear hb
      have i1 : (k : Int) < (n : Int) := by omega
      have hkb := bit_one d hd k (by omega)
      have B2 := hid (bgo HW.out (bnew (bnil wr) (.cells #[.int .i64 b.b, .int .i64 b.e, .bool b.put, .int .i64 b.val, .int .i64 b.by_] 32)))
      have key : ∀ x : Bool, (x = true ↔ (bb = true ∧ (b.e = -1 ∨ d.testBit k = true))) → (x = true ↔ ∀ j b, j < k + 1 → l[j]? = some b → b.e = -1 ∨ d.testBit j = true) := by
        intro x hx
        rw [hx, HR.out]
        constructor
        · rintro ⟨h1, h2⟩ j b' hj hb'
          rcases Nat.lt_or_ge j k with h | h
          · exact h1 j b' h hb'
          · obtain rfl : j = k := by omega
            rw [HBK.out] at hb'; injection hb' with hb'; subst hb'
            exact h2
        · intro h
          exact ⟨fun j b' hj hb' => h j b' (by omega) hb', h k b (by omega) HBK.out⟩
      have HKEY := hid key
      clear key
      cases bb with
      | false =>
        go_wp2_with fail
        go_roundw
        case rel => exact ⟨k + 1, false, by omega, rfl, by go_num, B2, hid (HKEY.out false (by simp))⟩
        case measure => simp [intOf]; omega
      | true =>
        by_cases hbe : b.e = -1
        · have hq2 : ((b.e : Int) == -1) = true := by simp [hbe]
          have HBE := hid hbe
          clear hbe
          go_wp2_with fail
          go_roundw
          case rel => exact ⟨k + 1, true, by omega, rfl, by go_num, B2, hid (HKEY.out true (by simp [HBE.out]))⟩
          case measure => simp [intOf]; omega
        · have hq2 : ((b.e : Int) == -1) = false := by simp [hbe]
          have HBE := hid hbe
          clear hbe
          cases hbt : d.testBit k with
          | true =>
            rw [hbt] at hkb
            have HBT := hid hbt
            clear hbt
            go_wp2_with fail
            go_roundw
            case rel => exact ⟨k + 1, true, by omega, rfl, by go_num, B2, hid (HKEY.out true (by simp [HBT.out]))⟩
            case measure => simp [intOf]; omega
          | false =>
            rw [hbt] at hkb
            have HBT := hid hbt
            clear hbt
            go_wp2_with fail
            go_roundw
            case rel => exact ⟨k + 1, false, by omega, rfl, by go_num, B2, hid (HKEY.out false (by simp [HBT.out, HBE.out]))⟩
            case measure => simp [intOf]; omega
    · obtain rfl : k = n := by omega
      have HR2 := hid (show bb = true ↔ ∀ j b, l[j]? = some b → b.e = -1 ∨ d.testBit j = true from HR.out.trans ⟨fun h j b hb => h j b (by have := (List.getElem?_eq_some_iff.1 hb).1; have := H.out.len; omega) hb, fun h j b _ hb => h j b hb⟩)
      clear HR
      cases bb with
      | true =>
        have HFN := hid (show Fnd l d o from fnd_all (HR2.out.1 rfl))
        go_wp2
        go_ret
        exact ⟨true, M, rfl, ⟨fun _ => HFN.out, fun _ => rfl⟩, (HA.out.memo.below HW.out).mono (by omega), Fr.of_below HW.out HA.out.bel.size, fun h => (by cases h)⟩
      | false =>
        obtain ⟨f, sv, hM⟩ := HA.out.memo.below HW.out
        have HM := hid hM
        clear hM
        obtain ⟨Av, cv, hsv, hcv, hcm⟩ := (HM.out.own d).form
        have HSV := hid hsv
        have hlen := HM.out.len d
        have hroom := HA.out.room
        have HSL := hid (show Sl wr.drew 1 Av (M d).length ((M d).flatMap gP) from by have h := (HM.out.own d).drew; rw [hsv] at h; exact h.sl)
        have HOB := hid (show Objs wr.drew o.kd (M d) from by rw [HA.out.kd]; exact (HM.out.objs d).below (bnil wr).drew)
        have HV := hid (show ObjAt wr.drew (.iface t uu) o from HA.out.obj.below (bgo HW.out (bnil wr).drew))
        have HSC := hid (fun w' (hb : Below wr.heap.size wr w') => cell_below hb e1)
        have hmf : ∀ (fn : Fn) (first cap : Array Value) (w : World), (Instr.makeFunc fn first cap).run Try.prog w = .ok (.func fn first cap) w := fun _ _ _ _ => rfl
        clear hsv
        by_cases hin : ∃ p ∈ M d, p.2 = o
        · have HIN := hid hin
          clear hin
          go_upto_region 9 with fail
          refine wp_region_held_drew (S := (fun w' => w'.cell? ⟨s, 1, none⟩ = some (.map (some mb)))) (by kernel_rfl) ?_ (fun hHeld => ?_)
          · (try dsimp only); first | assumption | exact HSC.out _ (bnil _).drew | exact HSC.out _ Z2.out
          refine wpAnyH_take (i := 0) (oi := ⟨some 39, _, _, _, _, _⟩) (v := ?_) rfl (by kernel_rfl) (by kernel_rfl) (by kernel_rfl) (fun _ _ _ h => h) (Or.inl ⟨by rfl, ?_⟩) (by assumption) ?_
          rotate_left
          · intro w hSw; (try dsimp only at hSw); go_simp <;> with_reducible rfl
          try simp only [Act.put, List.setIfInBounds_toArray, List.set_cons_zero, List.set_cons_succ]
          refine wpAnyH_take (i := 1) (oi := ⟨some 40, _, _, _, _, _⟩) (v := ?_) rfl (by kernel_rfl) (by kernel_rfl) (by kernel_rfl) (fun _ _ _ h => h) (Or.inl ⟨by rfl, ?_⟩) (by assumption) ?_
          rotate_left
          · intro w hSw; (try dsimp only at hSw); go_simp <;> with_reducible rfl
          try simp only [Act.put, List.setIfInBounds_toArray, List.set_cons_zero, List.set_cons_succ]
          refine wpAnyH_take (i := 2) (oi := ⟨some 41, _, _, _, _, _⟩) (v := ?_) rfl (by kernel_rfl) (by kernel_rfl) (by kernel_rfl) (fun _ _ _ h => h) (Or.inl ⟨by rfl, ?_⟩) (by assumption) ?_
          rotate_left
          · intro w hSw; (try dsimp only at hSw); go_simp <;> with_reducible rfl
          try simp only [Act.put, List.setIfInBounds_toArray, List.set_cons_zero, List.set_cons_succ]
          refine wpAnyH_take (i := 3) (oi := ⟨some 42, _, _, _, _, _⟩) (v := ?_) rfl (by kernel_rfl) (by kernel_rfl) (by kernel_rfl) (fun _ _ _ h => h) (Or.inl ⟨by rfl, ?_⟩) (by assumption) ?_
          rotate_left
          · intro w hSw; (try dsimp only at hSw); go_simp <;> with_reducible rfl
          try simp only [Act.put, List.setIfInBounds_toArray, List.set_cons_zero, List.set_cons_succ]
          refine wpAnyH_take (i := 4) (oi := ⟨some 43, _, _, _, _, _⟩) (v := ?_) rfl (by kernel_rfl) (by kernel_rfl) (by kernel_rfl) (fun _ _ _ h => h) (Or.inl ⟨by rfl, ?_⟩) (by assumption) ?_
          rotate_left
          · intro w hSw; (try dsimp only at hSw); go_simp <;> with_reducible rfl
          try simp only [Act.put, List.setIfInBounds_toArray, List.set_cons_zero, List.set_cons_succ]
          refine wpAnyH_take (i := 6) (oi := ⟨some 45, _, _, _, _, _⟩) (v := ?_) rfl (by kernel_rfl) (by kernel_rfl) (by kernel_rfl) (fun _ _ _ h => h) (Or.inl ⟨by rfl, ?_⟩) (by assumption) ?_
          rotate_left
          · intro w hSw; (try dsimp only at hSw); go_simp <;> with_reducible rfl
          try simp only [Act.put, List.setIfInBounds_toArray, List.set_cons_zero, List.set_cons_succ]
          refine wpAnyH_take (i := 7) (oi := ⟨some 46, _, _, _, _, _⟩) (v := ?_) rfl (by kernel_rfl) (by kernel_rfl) (by kernel_rfl) (fun _ _ _ h => h) (Or.inl ⟨by rfl, ?_⟩) (by assumption) ?_
          rotate_left
          · intro w hSw; (try dsimp only at hSw); go_simp <;> with_reducible rfl
          try simp only [Act.put, List.setIfInBounds_toArray, List.set_cons_zero, List.set_cons_succ]
          refine wpAnyH_take (i := 8) (oi := ⟨some 47, _, _, _, _, _⟩) (v := ?_) rfl (by kernel_rfl) (by kernel_rfl) (by kernel_rfl) (fun _ _ _ h => h) (Or.inl ⟨by rfl, ?_⟩) (by assumption) ?_
          rotate_left
          · intro w hSw; (try dsimp only at hSw); go_simp <;> with_reducible rfl
          try simp only [Act.put, List.setIfInBounds_toArray, List.set_cons_zero, List.set_cons_succ]
          refine wpAnyH_ready (rs := [5]) (by kernel_rfl) (by simp) ?_
          refine AllReadyH.cons (o := ⟨some 44, _, _, _, _, _⟩) rfl (fun K hK => ?_) AllReadyH.nil
          (refine step_lookV _ rfl (.tmp 42) (.tmp 43) 71 rfl 75 101 kU Try.underlying71 (zeroO _) mb N f rfl HM.out.map.drew _ _ rfl (keyU d hd) (.slice Av (M d).length cv) (by rw [HM.out.get d]; exact HSV.out) ?_)
          refine hK.out _ _ ?_ (fun hHeld => ?_)
          · (try dsimp only); first | assumption | exact HSC.out _ (bnil _).drew | exact HSC.out _ Z2.out
          clear hK K
          try simp only [Act.put, List.setIfInBounds_toArray, List.set_cons_zero, List.set_cons_succ]
          refine wpAnyH_ready (rs := [9]) (by kernel_rfl) (by simp) ?_
          refine AllReadyH.cons (o := ⟨some 48, _, _, _, _, _⟩) rfl (fun K hK => ?_) AllReadyH.nil
          go_simp
          (refine (contains_objs Av (M d).length cv (M d) (.iface t uu) o t uu F G _ (by omega) HSL.out HOB.out HF.out HV.out).mono ?_; rintro e w2 ⟨b2, rfl, hb2, z2⟩; have Z2 := hid (bgo (bnil _).drew z2); clear z2; obtain rfl : b2 = true := hb2.2 HIN.out; clear hb2)
          go_wp2_with fail
          refine hK.out _ _ ?_ (fun hHeld => ?_)
          · (try dsimp only); first | assumption | exact HSC.out _ (bnil _).drew | exact HSC.out _ Z2.out
          clear hK K
          try simp only [Act.put, List.setIfInBounds_toArray, List.set_cons_zero, List.set_cons_succ]
          refine wpAnyH_done (by kernel_rfl) ?_ _
          rotate_left
          go_wp2_with fail
          go_ret
          obtain ⟨p, hp, hpo⟩ := HIN.out
          have hno : ¬ Fnd l d o := by have := HA.out.dead d p (Nat.le_refl _) hp; rwa [hpo] at this
          have BB := bgo HW.out Z2.out
          exact ⟨false, M, rfl, ⟨fun h => (by cases h), fun h => absurd h hno⟩, (HA.out.memo.below BB).mono (by omega), Fr.of_below BB HA.out.bel.size, fun _ d' p hp => .inl hp⟩
        · have HIN := hid hin
          clear hin
          go_upto_region 9 with fail
          refine wp_region_held_drew (S := (fun w' => w'.cell? ⟨s, 1, none⟩ = some (.map (some mb)))) (by kernel_rfl) ?_ (fun hHeld => ?_)
          · (try dsimp only); first | assumption | exact HSC.out _ (bnil _).drew | exact HSC.out _ Z2.out
          refine wpAnyH_take (i := 0) (oi := ⟨some 39, _, _, _, _, _⟩) (v := ?_) rfl (by kernel_rfl) (by kernel_rfl) (by kernel_rfl) (fun _ _ _ h => h) (Or.inl ⟨by rfl, ?_⟩) (by assumption) ?_
          rotate_left
          · intro w hSw; (try dsimp only at hSw); go_simp <;> with_reducible rfl
          try simp only [Act.put, List.setIfInBounds_toArray, List.set_cons_zero, List.set_cons_succ]
          refine wpAnyH_take (i := 1) (oi := ⟨some 40, _, _, _, _, _⟩) (v := ?_) rfl (by kernel_rfl) (by kernel_rfl) (by kernel_rfl) (fun _ _ _ h => h) (Or.inl ⟨by rfl, ?_⟩) (by assumption) ?_
          rotate_left
          · intro w hSw; (try dsimp only at hSw); go_simp <;> with_reducible rfl
          try simp only [Act.put, List.setIfInBounds_toArray, List.set_cons_zero, List.set_cons_succ]
          refine wpAnyH_take (i := 2) (oi := ⟨some 41, _, _, _, _, _⟩) (v := ?_) rfl (by kernel_rfl) (by kernel_rfl) (by kernel_rfl) (fun _ _ _ h => h) (Or.inl ⟨by rfl, ?_⟩) (by assumption) ?_
          rotate_left
          · intro w hSw; (try dsimp only at hSw); go_simp <;> with_reducible rfl
          try simp only [Act.put, List.setIfInBounds_toArray, List.set_cons_zero, List.set_cons_succ]
          refine wpAnyH_take (i := 3) (oi := ⟨some 42, _, _, _, _, _⟩) (v := ?_) rfl (by kernel_rfl) (by kernel_rfl) (by kernel_rfl) (fun _ _ _ h => h) (Or.inl ⟨by rfl, ?_⟩) (by assumption) ?_
          rotate_left
          · intro w hSw; (try dsimp only at hSw); go_simp <;> with_reducible rfl
          try simp only [Act.put, List.setIfInBounds_toArray, List.set_cons_zero, List.set_cons_succ]
          refine wpAnyH_take (i := 4) (oi := ⟨some 43, _, _, _, _, _⟩) (v := ?_) rfl (by kernel_rfl) (by kernel_rfl) (by kernel_rfl) (fun _ _ _ h => h) (Or.inl ⟨by rfl, ?_⟩) (by assumption) ?_
          rotate_left
          · intro w hSw; (try dsimp only at hSw); go_simp <;> with_reducible rfl
          try simp only [Act.put, List.setIfInBounds_toArray, List.set_cons_zero, List.set_cons_succ]
          refine wpAnyH_take (i := 6) (oi := ⟨some 45, _, _, _, _, _⟩) (v := ?_) rfl (by kernel_rfl) (by kernel_rfl) (by kernel_rfl) (fun _ _ _ h => h) (Or.inl ⟨by rfl, ?_⟩) (by assumption) ?_
          rotate_left
          · intro w hSw; (try dsimp only at hSw); go_simp <;> with_reducible rfl
          try simp only [Act.put, List.setIfInBounds_toArray, List.set_cons_zero, List.set_cons_succ]
          refine wpAnyH_take (i := 7) (oi := ⟨some 46, _, _, _, _, _⟩) (v := ?_) rfl (by kernel_rfl) (by kernel_rfl) (by kernel_rfl) (fun _ _ _ h => h) (Or.inl ⟨by rfl, ?_⟩) (by assumption) ?_
          rotate_left
          · intro w hSw; (try dsimp only at hSw); go_simp <;> with_reducible rfl
          try simp only [Act.put, List.setIfInBounds_toArray, List.set_cons_zero, List.set_cons_succ]
          refine wpAnyH_take (i := 8) (oi := ⟨some 47, _, _, _, _, _⟩) (v := ?_) rfl (by kernel_rfl) (by kernel_rfl) (by kernel_rfl) (fun _ _ _ h => h) (Or.inl ⟨by rfl, ?_⟩) (by assumption) ?_
          rotate_left
          · intro w hSw; (try dsimp only at hSw); go_simp <;> with_reducible rfl
          try simp only [Act.put, List.setIfInBounds_toArray, List.set_cons_zero, List.set_cons_succ]
          refine wpAnyH_ready (rs := [5]) (by kernel_rfl) (by simp) ?_
          refine AllReadyH.cons (o := ⟨some 44, _, _, _, _, _⟩) rfl (fun K hK => ?_) AllReadyH.nil
          (refine step_lookV _ rfl (.tmp 42) (.tmp 43) 71 rfl 75 101 kU Try.underlying71 (zeroO _) mb N f rfl HM.out.map.drew _ _ rfl (keyU d hd) (.slice Av (M d).length cv) (by rw [HM.out.get d]; exact HSV.out) ?_)
          refine hK.out _ _ ?_ (fun hHeld => ?_)
          · (try dsimp only); first | assumption | exact HSC.out _ (bnil _).drew | exact HSC.out _ Z2.out
          clear hK K
          try simp only [Act.put, List.setIfInBounds_toArray, List.set_cons_zero, List.set_cons_succ]
          refine wpAnyH_ready (rs := [9]) (by kernel_rfl) (by simp) ?_
          refine AllReadyH.cons (o := ⟨some 48, _, _, _, _, _⟩) rfl (fun K hK => ?_) AllReadyH.nil
          go_simp
          (refine (contains_objs Av (M d).length cv (M d) (.iface t uu) o t uu F G _ (by omega) HSL.out HOB.out HF.out HV.out).mono ?_; rintro e w2 ⟨b2, rfl, hb2, z2⟩; have Z2 := hid (bgo (bnil _).drew z2); clear z2; obtain rfl : b2 = false := (by cases b2 <;> first | rfl | exact absurd (hb2.1 rfl) HIN.out); clear hb2)
          go_wp2_with fail
          refine hK.out _ _ ?_ (fun hHeld => ?_)
          · (try dsimp only); first | assumption | exact HSC.out _ (bnil _).drew | exact HSC.out _ Z2.out
          clear hK K
          try simp only [Act.put, List.setIfInBounds_toArray, List.set_cons_zero, List.set_cons_succ]
          refine wpAnyH_done (by kernel_rfl) ?_ _
          rotate_left
          go_upto_region 11 with fail
          obtain ⟨y, hy⟩ : ∃ y, M d ++ [((.iface t uu : Value), o)] = y := ⟨_, rfl⟩
          have HY := hid hy
          have HYL := hid (show y.length = (M d).length + 1 by rw [← hy, List.length_append]; rfl)
          have HM2 := hid (HM.out.below Z2.out)
          have g1 := HSC.out w2 Z2.out
          have HSC2 := hid (fun w' (hb : Below w2.heap.size w2 w') => cell_below hb g1)
          have HAW := hid (HA.out.seek.blk.below' (bgo HW.out Z2.out))
          obtain ⟨wA, hwA⟩ : ∃ wA, (w2.alloc (.cells #[.iface t uu] 65)).drew = wA := ⟨_, rfl⟩
          have HWA := hid (show Below w2.heap.size w2 wA from by rw [← hwA]; exact (bnew (bnil w2) _).drew)
          have HMA := hid (HM2.out.below HWA.out)
          have HGR := hid (fun (w3 : World) (hg : wA.grownBy w3 (Value.slice Av (M d).length cv).ownBlock) => show Blk w3 s 73 #[.slice A k c, .map (some mb)] from
            (Fr.of_grown hg (HMA.out.own d).below.size (fun q e => (own_lt9 (HMA.out.own d) (by rw [HSV.out]; exact e)).1) (fun q t cs e ht hb => own_ne_blk (HMA.out.own d).own hb (Ne.symm ht) (by rw [HSV.out]; exact e))).row s _ _ (by decide) (HAW.out.below' HWA.out))
          have HMP := hid (fun (w3 : World) (hg : wA.grownBy w3 (Value.slice Av (M d).length cv).ownBlock) => show MapV w3 Try.prog 75 mb N f from
            HMA.out.map.kept_ hg fun e => (HMA.out.own d).ne_map HMA.out.map (by rw [HSV.out]; exact e.symm))
          have HGS := hid (fun (w3 w4 : World) (h : Blk w3 s 73 #[.slice A k c, .map (some mb)]) (hm : MapV w3 Try.prog 75 mb N f) (hg : w3.grownBy w4 (some mb)) => show Blk w4 s 73 #[.slice A k c, .map (some mb)] from
            (hg.block s h.lt fun e => by
              injection e with e; subst e
              obtain ⟨es, clock, hb⟩ := hm.block
              unfold Blk at h; rw [hb] at h; cases h).trans h)
          have HB2 := hid (bgo HW.out Z2.out)
          have HHA := hid hwA
          have HSF := hid (show Sl wA 1 (some ⟨w2.heap.size, 0, none⟩) 1 (List.flatMap gP [((.iface t uu : Value), o)]) from by rw [← hwA]; exact Sl.drew (Sl.fresh' w2 #[.iface t uu] 65 1 1 _ rfl rfl))
          clear hwA hy
          go_cut [] from 38 to 109 (fun wx => Hid (Memo W0 wx kd mb (N + 1) (addM M d ((.iface t uu), o)) ∧ Fr W0.heap.size w wx))
          case first =>
            refine wp_region_held_drew (S := (fun w' => w'.cell? ⟨s, 1, none⟩ = some (.map (some mb)))) (by kernel_rfl) ?_ (fun hHeld => ?_)
            · (try dsimp only); first | assumption | exact HSC2.out _ (bnil _).drew | exact HSC2.out _ (bnew (bnil _).drew _) | exact HSC3.out.cell 1 | exact HSC4.out.cell 1
            refine wpAnyH_take (i := 0) (oi := ⟨some 49, _, _, _, _, _⟩) (v := ?_) rfl (by kernel_rfl) (by kernel_rfl) (by kernel_rfl) (fun _ _ _ h => h) (Or.inl ⟨by rfl, ?_⟩) (by assumption) ?_
            rotate_left
            · intro w hSw; (try dsimp only at hSw); go_simp <;> with_reducible rfl
            try simp only [Act.put, List.setIfInBounds_toArray, List.set_cons_zero, List.set_cons_succ]
            refine wpAnyH_take (i := 1) (oi := ⟨some 50, _, _, _, _, _⟩) (v := ?_) rfl (by kernel_rfl) (by kernel_rfl) (by kernel_rfl) (fun _ _ _ h => h) (Or.inl ⟨by rfl, ?_⟩) (by assumption) ?_
            rotate_left
            · intro w hSw; (try dsimp only at hSw); go_simp <;> with_reducible rfl
            try simp only [Act.put, List.setIfInBounds_toArray, List.set_cons_zero, List.set_cons_succ]
            refine wpAnyH_take (i := 2) (oi := ⟨some 51, _, _, _, _, _⟩) (v := ?_) rfl (by kernel_rfl) (by kernel_rfl) (by kernel_rfl) (fun _ _ _ h => h) (Or.inl ⟨by rfl, ?_⟩) (by assumption) ?_
            rotate_left
            · intro w hSw; (try dsimp only at hSw); go_simp <;> with_reducible rfl
            try simp only [Act.put, List.setIfInBounds_toArray, List.set_cons_zero, List.set_cons_succ]
            refine wpAnyH_take (i := 3) (oi := ⟨some 52, _, _, _, _, _⟩) (v := ?_) rfl (by kernel_rfl) (by kernel_rfl) (by kernel_rfl) (fun _ _ _ h => h) (Or.inl ⟨by rfl, ?_⟩) (by assumption) ?_
            rotate_left
            · intro w hSw; (try dsimp only at hSw); go_simp <;> with_reducible rfl
            try simp only [Act.put, List.setIfInBounds_toArray, List.set_cons_zero, List.set_cons_succ]
            refine wpAnyH_take (i := 4) (oi := ⟨some 53, _, _, _, _, _⟩) (v := ?_) rfl (by kernel_rfl) (by kernel_rfl) (by kernel_rfl) (fun _ _ _ h => h) (Or.inl ⟨by rfl, ?_⟩) (by assumption) ?_
            rotate_left
            · intro w hSw; (try dsimp only at hSw); go_simp <;> with_reducible rfl
            try simp only [Act.put, List.setIfInBounds_toArray, List.set_cons_zero, List.set_cons_succ]
            refine wpAnyH_take (i := 5) (oi := ⟨some 54, _, _, _, _, _⟩) (v := ?_) rfl (by kernel_rfl) (by kernel_rfl) (by kernel_rfl) (fun _ _ _ h => h) (Or.inl ⟨by rfl, ?_⟩) (by assumption) ?_
            rotate_left
            · intro w hSw; (try dsimp only at hSw); go_simp <;> with_reducible rfl
            try simp only [Act.put, List.setIfInBounds_toArray, List.set_cons_zero, List.set_cons_succ]
            refine wpAnyH_take (i := 6) (oi := ⟨some 55, _, _, _, _, _⟩) (v := ?_) rfl (by kernel_rfl) (by kernel_rfl) (by kernel_rfl) (fun _ _ _ h => h) (Or.inl ⟨by rfl, ?_⟩) (by assumption) ?_
            rotate_left
            · intro w hSw; (try dsimp only at hSw); go_simp <;> with_reducible rfl
            try simp only [Act.put, List.setIfInBounds_toArray, List.set_cons_zero, List.set_cons_succ]
            refine wpAnyH_take (i := 7) (oi := ⟨some 56, _, _, _, _, _⟩) (v := ?_) rfl (by kernel_rfl) (by kernel_rfl) (by kernel_rfl) (fun _ _ _ h => h) (Or.inl ⟨by rfl, ?_⟩) (by assumption) ?_
            rotate_left
            · intro w hSw; (try dsimp only at hSw); go_simp <;> with_reducible rfl
            try simp only [Act.put, List.setIfInBounds_toArray, List.set_cons_zero, List.set_cons_succ]
            refine wpAnyH_take (i := 8) (oi := ⟨some 57, _, _, _, _, _⟩) (v := ?_) rfl (by kernel_rfl) (by kernel_rfl) (by kernel_rfl) (fun _ _ _ h => h) (Or.inl ⟨by rfl, ?_⟩) (by assumption) ?_
            rotate_left
            · intro w hSw; (try dsimp only at hSw); go_simp <;> with_reducible rfl
            try simp only [Act.put, List.setIfInBounds_toArray, List.set_cons_zero, List.set_cons_succ]
            refine wpAnyH_take (i := 9) (oi := ⟨some 58, _, _, _, _, _⟩) (v := ?_) rfl (by kernel_rfl) (by kernel_rfl) (by kernel_rfl) (fun _ _ _ h => h) (Or.inl ⟨by rfl, ?_⟩) (by assumption) ?_
            rotate_left
            · intro w hSw; (try dsimp only at hSw); go_simp <;> with_reducible rfl
            try simp only [Act.put, List.setIfInBounds_toArray, List.set_cons_zero, List.set_cons_succ]
            refine wpAnyH_take (i := 11) (oi := ⟨some 60, _, _, _, _, _⟩) (v := ?_) rfl (by kernel_rfl) (by kernel_rfl) (by kernel_rfl) (fun _ _ _ h => h) (Or.inl ⟨by rfl, ?_⟩) (by assumption) ?_
            rotate_left
            · intro w hSw; (try dsimp only at hSw); go_simp <;> with_reducible rfl
            try simp only [Act.put, List.setIfInBounds_toArray, List.set_cons_zero, List.set_cons_succ]
            refine wpAnyH_ready (rs := [10, 12]) (by kernel_rfl) (by simp) ?_
            refine AllReadyH.cons (o := ⟨some 59, _, _, _, _, _⟩) rfl (fun K hK => ?_) ?_
            (refine step_lookV _ rfl (.tmp 57) (.tmp 58) 71 rfl 75 101 kU Try.underlying71 (zeroO _) mb N f rfl (by first | exact HM2.out.map.drew | (have h := HMA.out.map; rw [← HHA.out] at h; exact h)) _ _ rfl (keyU d hd) (.slice Av (M d).length cv) (by rw [HM2.out.get d]; exact HSV.out) ?_)
            refine hK.out _ _ ?_ (fun hHeld => ?_)
            · (try dsimp only); first | assumption | exact HSC2.out _ (bnil _).drew | exact HSC2.out _ (bnew (bnil _).drew _) | exact HSC3.out.cell 1 | exact HSC4.out.cell 1
            clear hK K
            try simp only [Act.put, List.setIfInBounds_toArray, List.set_cons_zero, List.set_cons_succ]
            refine wpAnyH_ready (rs := [12]) (by kernel_rfl) (by simp) ?_
            refine AllReadyH.cons (o := ⟨some 61, _, _, _, _, _⟩) rfl (fun K hK => ?_) AllReadyH.nil
            go_simp
            refine hK.out _ _ ?_ (fun hHeld => ?_)
            · (try dsimp only); first | assumption | exact HSC2.out _ (bnil _).drew | exact HSC2.out _ (bnew (bnil _).drew _) | exact HSC3.out.cell 1 | exact HSC4.out.cell 1
            clear hK K
            try simp only [Act.put, List.setIfInBounds_toArray, List.set_cons_zero, List.set_cons_succ]
            refine wpAnyH_ready (rs := [13]) (by kernel_rfl) (by simp) ?_
            refine AllReadyH.cons (o := ⟨some 62, _, _, _, _, _⟩) rfl (fun K hK => ?_) AllReadyH.nil
            (rw [HHA.out]; refine step_appN (g := gP) elmO rfl (.tmp 59) (.tmp 61) rfl (.slice Av (M d).length cv) (M d) rfl (by have h := (HMA.out.own d).own; rw [HSV.out] at h; exact h) [((.iface t uu), o)] y HY rfl HSF.out rfl (by intro u hu; rw [show List.flatMap gP [((.iface t uu : Value), o)] = [.iface t uu] from rfl] at hu; rw [List.mem_singleton.1 hu]; rfl) (by rw [HYL.out]; simp only [maxLen]; omega) (by rw [HYL.out]; omega) (HMA.out.own d).below.size ?_; intro A3 c3 w3 hc3 hc4 O3 G3 N3; have HSC3 := hid (HGR.out w3 G3.out))
            refine hK.out _ _ ?_ (fun hHeld => ?_)
            · (try dsimp only); first | assumption | exact HSC2.out _ (bnil _).drew | exact HSC2.out _ (bnew (bnil _).drew _) | exact HSC3.out.cell 1 | exact HSC4.out.cell 1
            clear hK K
            try simp only [Act.put, List.setIfInBounds_toArray, List.set_cons_zero, List.set_cons_succ]
            refine wpAnyH_ready (rs := [14]) (by kernel_rfl) (by simp) ?_
            refine AllReadyH.cons (o := ⟨none, _, _, _, _, _⟩) rfl (fun K hK => ?_) AllReadyH.nil
            (refine step_storeV _ rfl (.tmp 52) (.tmp 53) (.tmp 62) 71 rfl 75 101 kU Try.underlying71 mb N f rfl (HMP.out w3 G3.out) (by simp only [maxLen]; omega) _ _ (.int .u64 (d : Int)) rfl rfl (keyU d hd) ?_; intro w4 hm4 hg4; have HSC4 := hid (HGS.out w3 w4 HSC3.out (HMP.out w3 G3.out) hg4.out))
            refine hK.out _ _ ?_ (fun hHeld => ?_)
            · (try dsimp only); first | assumption | exact HSC2.out _ (bnil _).drew | exact HSC2.out _ (bnew (bnil _).drew _) | exact HSC3.out.cell 1 | exact HSC4.out.cell 1
            clear hK K
            try dsimp only [Act.put]
            refine wpAnyH_done (by kernel_rfl) ?_ _
            rotate_left
            refine AllReadyH.cons (o := ⟨some 61, _, _, _, _, _⟩) rfl (fun K hK => ?_) AllReadyH.nil
            go_simp
            refine hK.out _ _ ?_ (fun hHeld => ?_)
            · (try dsimp only); first | assumption | exact HSC2.out _ (bnil _).drew | exact HSC2.out _ (bnew (bnil _).drew _) | exact HSC3.out.cell 1 | exact HSC4.out.cell 1
            clear hK K
            try simp only [Act.put, List.setIfInBounds_toArray, List.set_cons_zero, List.set_cons_succ]
            refine wpAnyH_ready (rs := [10]) (by kernel_rfl) (by simp) ?_
            refine AllReadyH.cons (o := ⟨some 59, _, _, _, _, _⟩) rfl (fun K hK => ?_) AllReadyH.nil
            (refine step_lookV _ rfl (.tmp 57) (.tmp 58) 71 rfl 75 101 kU Try.underlying71 (zeroO _) mb N f rfl (by first | exact HM2.out.map.drew | (have h := HMA.out.map; rw [← HHA.out] at h; exact h)) _ _ rfl (keyU d hd) (.slice Av (M d).length cv) (by rw [HM2.out.get d]; exact HSV.out) ?_)
            refine hK.out _ _ ?_ (fun hHeld => ?_)
            · (try dsimp only); first | assumption | exact HSC2.out _ (bnil _).drew | exact HSC2.out _ (bnew (bnil _).drew _) | exact HSC3.out.cell 1 | exact HSC4.out.cell 1
            clear hK K
            try simp only [Act.put, List.setIfInBounds_toArray, List.set_cons_zero, List.set_cons_succ]
            refine wpAnyH_ready (rs := [13]) (by kernel_rfl) (by simp) ?_
            refine AllReadyH.cons (o := ⟨some 62, _, _, _, _, _⟩) rfl (fun K hK => ?_) AllReadyH.nil
            (rw [HHA.out]; refine step_appN (g := gP) elmO rfl (.tmp 59) (.tmp 61) rfl (.slice Av (M d).length cv) (M d) rfl (by have h := (HMA.out.own d).own; rw [HSV.out] at h; exact h) [((.iface t uu), o)] y HY rfl HSF.out rfl (by intro u hu; rw [show List.flatMap gP [((.iface t uu : Value), o)] = [.iface t uu] from rfl] at hu; rw [List.mem_singleton.1 hu]; rfl) (by rw [HYL.out]; simp only [maxLen]; omega) (by rw [HYL.out]; omega) (HMA.out.own d).below.size ?_; intro A3 c3 w3 hc3 hc4 O3 G3 N3; have HSC3 := hid (HGR.out w3 G3.out))
            refine hK.out _ _ ?_ (fun hHeld => ?_)
            · (try dsimp only); first | assumption | exact HSC2.out _ (bnil _).drew | exact HSC2.out _ (bnew (bnil _).drew _) | exact HSC3.out.cell 1 | exact HSC4.out.cell 1
            clear hK K
            try simp only [Act.put, List.setIfInBounds_toArray, List.set_cons_zero, List.set_cons_succ]
            refine wpAnyH_ready (rs := [14]) (by kernel_rfl) (by simp) ?_
            refine AllReadyH.cons (o := ⟨none, _, _, _, _, _⟩) rfl (fun K hK => ?_) AllReadyH.nil
            (refine step_storeV _ rfl (.tmp 52) (.tmp 53) (.tmp 62) 71 rfl 75 101 kU Try.underlying71 mb N f rfl (HMP.out w3 G3.out) (by simp only [maxLen]; omega) _ _ (.int .u64 (d : Int)) rfl rfl (keyU d hd) ?_; intro w4 hm4 hg4; have HSC4 := hid (HGS.out w3 w4 HSC3.out (HMP.out w3 G3.out) hg4.out))
            refine hK.out _ _ ?_ (fun hHeld => ?_)
            · (try dsimp only); first | assumption | exact HSC2.out _ (bnil _).drew | exact HSC2.out _ (bnew (bnil _).drew _) | exact HSC3.out.cell 1 | exact HSC4.out.cell 1
            clear hK K
            try dsimp only [Act.put]
            refine wpAnyH_done (by kernel_rfl) ?_ _
            rotate_left
            all_goals
              have hadd := HMA.out.add hd (p := ((.iface t uu), o)) (HA.out.obj.below (bgo HB2.out HWA.out)) HA.out.kd (by have := HA.out.size; show o.size ≤ 100; omega) (v3 := .slice A3 y.length c3) (by rw [HY.out]; exact O3.out) (by rw [HSV.out]; exact G3.out) (by rw [HSV.out]; exact N3.out) hm4.out hg4.out
              have HAD := hid (show Memo W0 w4 kd mb (N + 1) (addM M d ((.iface t uu), o)) ∧ Fr W0.heap.size w w4 from ⟨hadd.1, (Fr.of_below (bgo HB2.out HWA.out) HA.out.bel.size).trans hadd.2⟩)
              clear hadd HSC3 HSC4 O3 G3 N3 hm4 hg4 hHeld hc3 hc4
              go_wp2
              go_meet
              exact HAD
          case rest =>
            obtain ⟨wq, hwq⟩ : ∃ wq, wq = wc := ⟨_, rfl⟩
            subst hwq
            have HCUT := hid hcut
            have HSK := hid (HA.out.seek.fr hcut.out.2 HA.out.sl0 HA.out.bel)
            have e0 := HSK.out.blk.cell 0
            clear hcut HY HYL HM2 g1 HSC2 HAW HWA HMA HGR HMP HGS HHA HSF HSC HSV HSL HOB HV hmf HM hcv hcm hlen
            go_wp2
            go_loopw [68] (fun q wr2 => ∃ (i : Nat) (M1 : Nat → List (Value × LO)), i ≤ k ∧ q = .int .i64 i ∧ Hid (Memo W0 wr2 kd mb (N + 1 + i * kids9 r) M1) ∧ Hid (Fr W0.heap.size w wr2)
                ∧ Hid (∀ d' p, p ∈ M1 d' → p ∈ M d' ∨ (d' = d ∧ p.2 = o) ∨ (d < d' ∧ ¬ Fnd l d' p.2))
                ∧ Hid (∀ j b, j < i → l[j]? = some b → d.testBit j = false → Rdy l d b → (b.e = -1 ∨ (o.next b).2 = b.val) → ¬ Fnd l (d ||| 1 <<< j) (o.next b).1)) (fun q _ => k - (intOf q).toNat)
            case atStart => exact ⟨0, _, Nat.zero_le _, rfl, hid (HCUT.out.1.mono (by omega)), hid HCUT.out.2, hid (fun d' p hp => by
                rcases addM_mem hp with h | ⟨h1, h2⟩
                · exact .inl h
                · exact .inr (.inl ⟨h1, by rw [h2]⟩)), hid (fun j b h => by omega)⟩
            case round =>
              obtain ⟨i, M1, hi, rfl, HM1, HFR, HMM, HNO⟩ := hrel
              have HSK2 := hid (HA.out.seek.fr HFR.out HA.out.sl0 HA.out.bel)
              have q0 := HSK2.out.blk.cell 0
              by_cases hlt2 : i < k
              · obtain ⟨ad, b, hAd, hb, f0, f1, f2, f3, f4⟩ := HSK2.out.at_ hlt2
                subst hAd
                have HBI := hid hb
                have i1 : (i : Int) < (k : Int) := by omega
                have hkb := bit_one d hd i (by omega)
                have BB := hid (Blk.new wr 32 #[.int .i64 b.b, .int .i64 b.e, .bool b.put, .int .i64 b.val, .int .i64 b.by_])
                have BW := hid (bnew (bnil wr) (.cells #[.int .i64 b.b, .int .i64 b.e, .bool b.put, .int .i64 b.val, .int .i64 b.by_] 32))
                have hBs := HA.out.bel.size
                have hBr : W0.heap.size ≤ wr.heap.size := Nat.le_trans hBs HFR.out.bel.size
                have HNX := hid (fun (bad : d.testBit i = false → Rdy l d b → (b.e = -1 ∨ (o.next b).2 = b.val) → ¬ Fnd l (d ||| 1 <<< i) (o.next b).1) => show ∀ j b', j < i + 1 → l[j]? = some b' → d.testBit j = false → Rdy l d b' → (b'.e = -1 ∨ (o.next b').2 = b'.val) → ¬ Fnd l (d ||| 1 <<< j) (o.next b').1 from by
                  intro j b' hj hb' h1 h2 h3
                  rcases Nat.lt_or_ge j i with h | h
                  · exact HNO.out j b' h hb' h1 h2 h3
                  · obtain rfl : j = i := by omega
                    rw [hb] at hb'; injection hb' with hb'; subst hb'
                    exact bad h1 h2 h3)
                have hms : N + 1 + i * kids9 r ≤ N + 1 + (i + 1) * kids9 r := by rw [Nat.add_mul]; omega
                have HSKIP := hid (fun (w' : World) (hw' : Below wr.heap.size wr w') => show Memo W0 w' kd mb (N + 1 + (i + 1) * kids9 r) M1 ∧ Fr W0.heap.size w w' from ⟨(HM1.out.below hw').mono hms, HFR.out.trans (Fr.of_below hw' hBr)⟩)
                clear hb hms
                cases hbt : d.testBit i with
                | true =>
                  rw [hbt] at hkb
                  have HBT := hid hbt
                  clear hbt
                  go_wp2_with fail
                  go_roundw
                  case rel => exact ⟨i + 1, M1, by omega, by go_num, hid (HSKIP.out _ BW.out).1, hid (HSKIP.out _ BW.out).2, HMM, hid (HNX.out fun h => by rw [HBT.out] at h; cases h)⟩
                  case measure => simp [intOf]; omega
                | false =>
                  rw [hbt] at hkb
                  have HBT := hid hbt
                  clear hbt
                  go_wp2_with fail
                  refine (seek_ready s (some ad) k c mb l d i b _ (HSK2.out.below BW.out) hd HBI.out).mono ?_
                  rintro e w5 ⟨b5, rfl, hb5, z5⟩
                  have HZ5 := hid (bgo BW.out z5)
                  have HRD := hid hb5
                  have x0 := (BB.out.below' z5).cell 0
                  have x1 := (BB.out.below' z5).cell 1
                  have x2 := (BB.out.below' z5).cell 2
                  have x3 := (BB.out.below' z5).cell 3
                  have x4 := (BB.out.below' z5).cell 4
                  have HB5 := hid (BB.out.below' z5)
                  clear z5 hb5
                  cases b5 with
                  | false =>
                    have HNR := hid (show ¬ Rdy l d b from fun h => (by have := HRD.out.2 h; cases this))
                    go_wp2_with fail
                    go_roundw
                    case rel => exact ⟨i + 1, M1, by omega, by go_num, hid (HSKIP.out _ HZ5.out).1, hid (HSKIP.out _ HZ5.out).2, HMM, hid (HNX.out fun _ h => absurd h HNR.out)⟩
                    case measure => simp [intOf]; omega
                  | true =>
                    have HYR := hid (HRD.out.1 rfl)
                    clear HRD
                    have hm1 := HF.out.m1
                    have hc1 := HF.out.c1
                    have HOBJ := hid (show ObjAt w5 (.iface t uu) o from HA.out.obj.keep fun g cs hg => hg |> HFR.out.int g cs |> fun h => h.below' HZ5.out)
                    go_wp2_with fail
                    refine (HF.out.nx b _ HOBJ.out).mono ?_
                    rintro e w6 ⟨v2, rfl, ho2, z6⟩
                    have HO2 := hid ho2
                    have HZ6 := hid (bgo HZ5.out z6)
                    have y1 := (HB5.out.below' z6).cell 1
                    have y3 := (HB5.out.below' z6).cell 3
                    clear ho2 z6 x0 x1 x2 x3 x4 HB5 BB
                    obtain ⟨o2, ho2⟩ : ∃ o2, (o.next b).1 = o2 := ⟨_, rfl⟩
                    obtain ⟨x2, hx2⟩ : ∃ x2, (o.next b).2 = x2 := ⟨_, rfl⟩
                    rw [ho2] at HO2
                    rw [hx2]
                    have HO2E := hid ho2
                    have HX2E := hid hx2
                    clear ho2 hx2
                    have hor := or_one d hd i (by omega)
                    by_cases hbe : b.e = -1
                    · have hq2 : ((b.e : Int) == -1) = true := by simp [hbe]
                      have HTK := hid (show b.e = -1 ∨ (o.next b).2 = b.val from .inl hbe)
                      clear hbe
                      go_wp2_with fail
                      obtain ⟨r', hr'⟩ : ∃ r', r = r' + 1 := ⟨r - 1, by have h1 := rest_less HBI.out HBT.out; have h2 := HA.out.rest; omega⟩
                      have hgt := or_gt HBT.out
                      have hk1 : kids9 r = calls9 r' := by rw [hr']; rfl
                      have hAsk : Ask W0 w6 s (some ad) k c mb kd l r' (d ||| 1 <<< i) (N + 1 + i * kids9 r) o2 v2 M1 := {
                        rest := by have h1 := rest_less HBI.out HBT.out; have h2 := HA.out.rest; omega
                        seek := HSK2.out.below HZ6.out
                        sl0 := HA.out.sl0
                        bel := (HA.out.bel.trans HFR.out.bel).trans (HZ6.out.mono hBr)
                        memo := HM1.out.below HZ6.out
                        room := by
                          have h1 := kids9_all r
                          have h2 : i * kids9 r + kids9 r ≤ 9 * kids9 r := by rw [← Nat.succ_mul]; exact Nat.mul_le_mul_right _ (by omega)
                          rw [hk1] at h1 h2 ⊢
                          omega
                        obj := HO2.out
                        kd := by rw [← HO2E.out, next_kd]; exact HA.out.kd
                        size := by have h1 := next_size o b; rw [HO2E.out] at h1; have h2 := HA.out.size; omega
                        dead := fun d' p hd' hp => by
                          rcases HMM.out d' p hp with h | h | h
                          · exact HA.out.dead d' p (by omega) h
                          · omega
                          · exact h.2 }
                      refine (HIH.out r' (by omega) (d ||| 1 <<< i) o2 v2 M1 (N + 1 + i * kids9 r) w6 (or_lt d hd i (by omega)) hAsk).mono ?_
                      rintro e w7 ⟨b7, M2, rfl, hb7, hM2, hF2, hX2⟩
                      have HFR2 := hid ((HFR.out.trans (Fr.of_below HZ6.out hBr)).trans hF2)
                      have HM2 := hid (hM2.mono (show N + 1 + i * kids9 r + calls9 r' ≤ N + 1 + (i + 1) * kids9 r by rw [hk1, Nat.add_mul]; omega))
                      have HB7 := hid hb7
                      have HX7 := hid hX2
                      have HGT := hid hgt
                      clear hAsk hM2 hF2 hX2 hb7 hor hgt hk1 hr'
                      cases b7 with
                      | true =>
                        have HYES := hid (show Fnd l d o from fnd_step HBI.out HBT.out HYR.out HTK.out (by rw [HO2E.out]; exact HB7.out.1 rfl))
                        have hki := kids9_all r
                        have hle : (i + 1) * kids9 r ≤ 9 * kids9 r := Nat.mul_le_mul_right _ (by omega)
                        have HM3 := hid (HM2.out.mono (show N + 1 + (i + 1) * kids9 r ≤ N + calls9 r by omega))
                        clear hki hle
                        go_wp2_with fail
                        go_ret
                        exact ⟨true, M2, rfl, ⟨fun _ => HYES.out, fun _ => rfl⟩, HM3.out, HFR2.out, fun h => (by cases h)⟩
                      | false =>
                        have HNF := hid (show ¬ Fnd l (d ||| 1 <<< i) (o.next b).1 from fun h => (by rw [HO2E.out] at h; have := HB7.out.2 h; cases this))
                        have HMM2 := hid (show ∀ d' p, p ∈ M2 d' → p ∈ M d' ∨ (d' = d ∧ p.2 = o) ∨ (d < d' ∧ ¬ Fnd l d' p.2) from fun d' p hp => by
                          rcases HX7.out rfl d' p hp with h | h
                          · exact HMM.out d' p h
                          · exact .inr (.inr ⟨by have := HGT.out; omega, h.2⟩))
                        go_wp2_with fail
                        go_roundw
                        case rel => exact ⟨i + 1, M2, by omega, by go_num, HM2, HFR2, HMM2, hid (HNX.out fun _ _ _ => HNF.out)⟩
                        case measure => simp [intOf]; omega
                    · have hq2 : ((b.e : Int) == -1) = false := by simp [hbe]
                      by_cases hxv : x2 = b.val
                      · have hq3 : ((x2 : Int) == b.val) = true := by simp [hxv]
                        have HTK := hid (show b.e = -1 ∨ (o.next b).2 = b.val from .inr (by rw [HX2E.out]; exact hxv))
                        clear hbe hxv
                        go_wp2_with fail
                        obtain ⟨r', hr'⟩ : ∃ r', r = r' + 1 := ⟨r - 1, by have h1 := rest_less HBI.out HBT.out; have h2 := HA.out.rest; omega⟩
                        have hgt := or_gt HBT.out
                        have hk1 : kids9 r = calls9 r' := by rw [hr']; rfl
                        have hAsk : Ask W0 w6 s (some ad) k c mb kd l r' (d ||| 1 <<< i) (N + 1 + i * kids9 r) o2 v2 M1 := {
                          rest := by have h1 := rest_less HBI.out HBT.out; have h2 := HA.out.rest; omega
                          seek := HSK2.out.below HZ6.out
                          sl0 := HA.out.sl0
                          bel := (HA.out.bel.trans HFR.out.bel).trans (HZ6.out.mono hBr)
                          memo := HM1.out.below HZ6.out
                          room := by
                            have h1 := kids9_all r
                            have h2 : i * kids9 r + kids9 r ≤ 9 * kids9 r := by rw [← Nat.succ_mul]; exact Nat.mul_le_mul_right _ (by omega)
                            rw [hk1] at h1 h2 ⊢
                            omega
                          obj := HO2.out
                          kd := by rw [← HO2E.out, next_kd]; exact HA.out.kd
                          size := by have h1 := next_size o b; rw [HO2E.out] at h1; have h2 := HA.out.size; omega
                          dead := fun d' p hd' hp => by
                            rcases HMM.out d' p hp with h | h | h
                            · exact HA.out.dead d' p (by omega) h
                            · omega
                            · exact h.2 }
                        refine (HIH.out r' (by omega) (d ||| 1 <<< i) o2 v2 M1 (N + 1 + i * kids9 r) w6 (or_lt d hd i (by omega)) hAsk).mono ?_
                        rintro e w7 ⟨b7, M2, rfl, hb7, hM2, hF2, hX2⟩
                        have HFR2 := hid ((HFR.out.trans (Fr.of_below HZ6.out hBr)).trans hF2)
                        have HM2 := hid (hM2.mono (show N + 1 + i * kids9 r + calls9 r' ≤ N + 1 + (i + 1) * kids9 r by rw [hk1, Nat.add_mul]; omega))
                        have HB7 := hid hb7
                        have HX7 := hid hX2
                        have HGT := hid hgt
                        clear hAsk hM2 hF2 hX2 hb7 hor hgt hk1 hr'
                        cases b7 with
                        | true =>
                          have HYES := hid (show Fnd l d o from fnd_step HBI.out HBT.out HYR.out HTK.out (by rw [HO2E.out]; exact HB7.out.1 rfl))
                          have hki := kids9_all r
                          have hle : (i + 1) * kids9 r ≤ 9 * kids9 r := Nat.mul_le_mul_right _ (by omega)
                          have HM3 := hid (HM2.out.mono (show N + 1 + (i + 1) * kids9 r ≤ N + calls9 r by omega))
                          clear hki hle
                          go_wp2_with fail
                          go_ret
                          exact ⟨true, M2, rfl, ⟨fun _ => HYES.out, fun _ => rfl⟩, HM3.out, HFR2.out, fun h => (by cases h)⟩
                        | false =>
                          have HNF := hid (show ¬ Fnd l (d ||| 1 <<< i) (o.next b).1 from fun h => (by rw [HO2E.out] at h; have := HB7.out.2 h; cases this))
                          have HMM2 := hid (show ∀ d' p, p ∈ M2 d' → p ∈ M d' ∨ (d' = d ∧ p.2 = o) ∨ (d < d' ∧ ¬ Fnd l d' p.2) from fun d' p hp => by
                            rcases HX7.out rfl d' p hp with h | h
                            · exact HMM.out d' p h
                            · exact .inr (.inr ⟨by have := HGT.out; omega, h.2⟩))
                          go_wp2_with fail
                          go_roundw
                          case rel => exact ⟨i + 1, M2, by omega, by go_num, HM2, HFR2, HMM2, hid (HNX.out fun _ _ _ => HNF.out)⟩
                          case measure => simp [intOf]; omega
                      · have hq3 : ((x2 : Int) == b.val) = false := by simp [hxv]
                        have HNT := hid (show ¬ (b.e = -1 ∨ (o.next b).2 = b.val) from fun h => h.elim hbe (by rw [HX2E.out]; exact hxv))
                        clear hbe hxv
                        go_wp2_with fail
                        go_roundw
                        case rel => exact ⟨i + 1, M1, by omega, by go_num, hid (HSKIP.out _ HZ6.out).1, hid (HSKIP.out _ HZ6.out).2, HMM, hid (HNX.out fun _ _ h => absurd h HNT.out)⟩
                        case measure => simp [intOf]; omega
              · obtain rfl : i = k := by omega
                have hno : ¬ Fnd l d o := by
                  intro h
                  rcases fnd_cases h with h | ⟨j, b, hj, h1, h2, h3, h4⟩
                  · have := HR2.out.2 h; cases this
                  · exact HNO.out j b (by have := (List.getElem?_eq_some_iff.1 hj).1; have := HSK2.out.len; omega) hj h1 h2 h3 h4
                have HN9 := hid hno
                clear hno
                have hki := kids9_all r
                have hle : i * kids9 r ≤ 9 * kids9 r := Nat.mul_le_mul_right _ hn9
                have HFM := hid (HM1.out.mono (show N + 1 + i * kids9 r ≤ N + calls9 r by omega))
                clear hki hle
                go_wp2
                go_ret
                exact ⟨false, M1, rfl, ⟨fun h => (by cases h), fun h => absurd h HN9.out⟩, HFM.out, HFR.out, fun _ d' p hp => (HMM.out d' p hp).elim .inl fun h => .inr (h.elim (fun h => ⟨by omega, by rw [h.1, h.2]; exact HN9.out⟩) fun h => ⟨by omega, h.2⟩)⟩
theorem found_of (s : Nat) (A : Option Addr) (n c mb kd : Nat) (l : List LA) (W0 : World) : ∀ (r d : Nat) (o : LO) (v : Value) (M : Nat → List (Value × LO)) (N : Nat) (w : World), d < 512 → Ask W0 w s A n c mb kd l r d N o v M →
    Calls Try.prog 23 #[.pointer (some ⟨s, 0, none⟩), .int .u64 (d : Int), v] w (FoundPost W0 w kd mb (N + calls9 r) M l d o) := by
  intro r
  induction r using Nat.strongRecOn with
  | ind r ih => exact fun d o v M N w hd hA => found_all s A n c mb kd l W0 r d N o v M w hd hA fun r' hr' d o v M N w hd hA => ih r' hr' d o v M N w hd hA
end Go.Proofs.Ytfdgklfkpofkeaa
