/-
  barographkeep.ringMachine: its walk. (Merged by mergeR.py.)
-/
import Derived.Test.YtiinnkdhccgelaaDoorMBun
import Derived.Test.YtiinnkdhccgelaaDoorRAll
import Derived.Test.YtiinnkdhccgelaaDoorRunMay
import Derived.Test.YtiinnkdhccgelaaDoorCodesR3
import Derived.Deep.RegionHeld
namespace Go.Proofs.YtiinnkdhccgelaaDoor
open Go.RowKit
set_option linter.unusedVariables false

theorem keep16 {w w' : World} {p0 p1 p2 r0 r1 r2 : Addr} {u0 u1 u2 v0 v1 v2 : Value} (b : Below w.heap.size w w') (y0 : w.cell? p0 = some u0) (y1 : w.cell? p1 = some u1) (y2 : w.cell? p2 = some u2) (z0 : w.frozen? r0 = false) (z1 : w.frozen? r1 = false) (z2 : w.frozen? r2 = false) (z3 : w.cell? r0 = some v0) (z4 : w.cell? r1 = some v1) (z5 : w.cell? r2 = some v2) :
    w'.cell? p0 = some u0 ∧ w'.cell? p1 = some u1 ∧ w'.cell? p2 = some u2 ∧ w'.frozen? r0 = false ∧ w'.frozen? r1 = false ∧ w'.frozen? r2 = false ∧ w'.cell? r0 = some v0 ∧ w'.cell? r1 = some v1 ∧ w'.cell? r2 = some v2 :=
  ⟨cell_below b y0, cell_below b y1, cell_below b y2, frozen_below b z3 z0, frozen_below b z4 z1, frozen_below b z5 z2, cell_below b z3, cell_below b z4, cell_below b z5⟩
theorem keep16s {w : World} {X R : Nat} {u0 u1 u2 : Value} (hne : X ≠ R) (y0 : w.cell? ⟨X, 0, none⟩ = some u0) (y1 : w.cell? ⟨X, 1, none⟩ = some u1) (y2 : w.cell? ⟨X, 2, none⟩ = some u2) (z0 : w.frozen? ⟨R, 0, none⟩ = false) (z1 : w.frozen? ⟨R, 1, none⟩ = false) (z2 : w.frozen? ⟨R, 2, none⟩ = false) (a b c : Value) :
    (((w.setCell ⟨R, 0, none⟩ a).setCell ⟨R, 1, none⟩ b).setCell ⟨R, 2, none⟩ c).cell? ⟨X, 0, none⟩ = some u0 ∧ (((w.setCell ⟨R, 0, none⟩ a).setCell ⟨R, 1, none⟩ b).setCell ⟨R, 2, none⟩ c).cell? ⟨X, 1, none⟩ = some u1 ∧ (((w.setCell ⟨R, 0, none⟩ a).setCell ⟨R, 1, none⟩ b).setCell ⟨R, 2, none⟩ c).cell? ⟨X, 2, none⟩ = some u2 ∧
    (((w.setCell ⟨R, 0, none⟩ a).setCell ⟨R, 1, none⟩ b).setCell ⟨R, 2, none⟩ c).frozen? ⟨R, 0, none⟩ = false ∧ (((w.setCell ⟨R, 0, none⟩ a).setCell ⟨R, 1, none⟩ b).setCell ⟨R, 2, none⟩ c).frozen? ⟨R, 1, none⟩ = false ∧ (((w.setCell ⟨R, 0, none⟩ a).setCell ⟨R, 1, none⟩ b).setCell ⟨R, 2, none⟩ c).frozen? ⟨R, 2, none⟩ = false := by
  refine ⟨?_, ?_, ?_, ?_, ?_, ?_⟩
  · rw [World.cell?_setCell_far, World.cell?_setCell_far, World.cell?_setCell_far] <;> first | exact y0 | exact fun e => hne e.symm
  · rw [World.cell?_setCell_far, World.cell?_setCell_far, World.cell?_setCell_far] <;> first | exact y1 | exact fun e => hne e.symm
  · rw [World.cell?_setCell_far, World.cell?_setCell_far, World.cell?_setCell_far] <;> first | exact y2 | exact fun e => hne e.symm
  · simp only [World.frozen?_setCell]; exact z0
  · simp only [World.frozen?_setCell]; exact z1
  · simp only [World.frozen?_setCell]; exact z2
theorem sees4f {W w' : World} {p q r s : Addr} {u v x y : Value} (h : Below W.heap.size W w') (hp : W.cell? p = some u) (hq : W.cell? q = some v) (hf : W.frozen? q = false) (hr : W.cell? r = some x) (hs : W.cell? s = some y) : w'.cell? p = some u ∧ w'.frozen? q = false ∧ w'.cell? r = some x ∧ w'.cell? s = some y := ⟨cell_below h hp, frozen_below h hq hf, cell_below h hr, cell_below h hs⟩
end Go.Proofs.YtiinnkdhccgelaaDoor
namespace Go.Proofs.YtiinnkdhccgelaaDoor
open Go.RowKit
set_option linter.unusedVariables false

/-- what the maker gives -/
def RMachPost (w : World) (N : Nat) (e : Ending) (w' : World) : Prop :=
  ∃ (AW : Option Addr) (cW Cb T : Nat) (cv tv : Nat → Value) (av : Nat → List SV), e = .returned (.tuple #[.agg #[.slice AW (2 + N) cW, .slice (some ⟨Cb, 0, none⟩) 2 2, .slice (some ⟨T, 0, none⟩) 2 2], .bool true]) ∧
    w'.ownsRow w.heap.size 3 1 (.slice AW (2 + N) cW) (2 + N) ((List.replicate (N + 2) (0 : Int)).flatMap gI) ∧ MN w.heap.size w' 2 2 Cb T cv (fun i => [rputCode N, rtakeCode N].getD i []) tv (rgths 20) av ∧ Below w.heap.size w w'
set_option maxHeartbeats 8000000 in
set_option maxRecDepth 100000 in
theorem ring_machine (N : Nat) (w : World) (h1 : 1 ≤ N) (h8 : N ≤ 8) (hT : STab w) :
    Calls Tryd.prog 27 #[.int .i64 (N : Int)] w fun e w' => RMachPost w N e w' := by
  have HT := hid hT
  have HWL := hid (show (List.replicate (N + 2) (0 : Int)).length = 2 + N by rw [List.length_replicate]; omega)
  clear hT
  go_enter Tryd.func27, Tryd.ntmps27
  go_wp2_with fail
  have HG := hid (Blk.new w 34 #[.slice none 0 0, .slice none 0 0, .slice none 0 0])
  have B0 := hid (bnew (bnil w) (.cells #[.slice none 0 0, .slice none 0 0, .slice none 0 0] 34))
  generalize World.alloc w (.cells #[.slice none 0 0, .slice none 0 0, .slice none 0 0] 34) = w0 at *
  refine (ring_words N w0 h1 h8).mono ?_
  rintro e w1 ⟨v1, rfl, o1⟩
  obtain ⟨AW, cW, rfl, hcW, hcW2⟩ := o1.form
  rw [HWL.out] at hcW ⊢
  have OW1 := hid (show w1.ownsRow w0.heap.size 3 1 (.slice AW (2 + N) cW) (2 + N) ((List.replicate (N + 2) (0 : Int)).flatMap gI) by have h := o1.own; rw [HWL.out] at h; exact h)
  have BW1 := hid o1.below
  clear o1
  go_wp2_with fail
  refine (ring_put N w1 h1 h8).mono ?_
  rintro e w2 ⟨v2, rfl, o2⟩
  obtain ⟨A1, c1, rfl, hc1, hc12⟩ := o2.form
  have O2 := hid o2
  clear o2
  rw [show (rputCode N).length = 14 from rfl] at *
  go_wp2_with fail
  refine (ring_take N w2 h1 h8).mono ?_
  rintro e w3 ⟨v3, rfl, o3⟩
  obtain ⟨A2, c2, rfl, hc2, hc22⟩ := o3.form
  have O3 := hid o3
  clear o3
  rw [show (rtakeCode N).length = 14 from rfl] at *
  have B13 := hid (bgo (bgo BW1.out O2.out.below) O3.out.below)
  have B3 := hid (bgo B0.out B13.out)
  have HG3 := hid (HG.out.below' B13.out)
  have HW3 := hid (own_below (own_lower OW1.out B0.out.size) (bgo O2.out.below O3.out.below))
  have HC1 := hid (own_below (own_lower O2.out.own (bgo B0.out BW1.out).size) O3.out.below)
  have HC2 := hid (own_lower O3.out.own (bgo (bgo B0.out BW1.out) O2.out.below).size)
  clear HG B0 OW1 BW1 O2 O3 B13
  obtain ⟨Cb, hCb⟩ : ∃ Cb, w3.heap.size = Cb := ⟨_, rfl⟩
  have hmk := mkT2 (w3.alloc (.cells #[.slice A1 14 c1, .slice A2 14 c2] 28))
  have BE := bnew (bnew (bnew (bnil w3) (.cells #[.slice A1 14 c1, .slice A2 14 c2] 28)) (.cells #[.slice none 0 0, .slice none 0 0] 54)) (.cells #[.slice AW (2 + N) cW, .slice (some ⟨Cb, 0, none⟩) 2 2, .slice (some ⟨Cb + 1, 0, none⟩) 2 2] 34)
  have HCB := hid ((blkN w3 28 #[.slice A1 14 c1, .slice A2 14 c2] Cb hCb).below' (bnew (bnew (bnil _) (.cells #[.slice none 0 0, .slice none 0 0] 54)) (.cells #[.slice AW (2 + N) cW, .slice (some ⟨Cb, 0, none⟩) 2 2, .slice (some ⟨Cb + 1, 0, none⟩) 2 2] 34)))
  have HTB := hid ((blkN (w3.alloc (.cells #[.slice A1 14 c1, .slice A2 14 c2] 28)) 54 #[.slice none 0 0, .slice none 0 0] (Cb + 1) (by rw [World.size_alloc, hCb])).below' (bnew (bnil _) (.cells #[.slice AW (2 + N) cW, .slice (some ⟨Cb, 0, none⟩) 2 2, .slice (some ⟨Cb + 1, 0, none⟩) 2 2] 34)))
  have HXB := hid (blkN ((w3.alloc (.cells #[.slice A1 14 c1, .slice A2 14 c2] 28)).alloc (.cells #[.slice none 0 0, .slice none 0 0] 54)) 34 #[.slice AW (2 + N) cW, .slice (some ⟨Cb, 0, none⟩) 2 2, .slice (some ⟨Cb + 1, 0, none⟩) 2 2] (Cb + 2) (by rw [World.size_alloc, World.size_alloc, hCb]))
  have B3E := hid BE
  clear BE
  go_upto_region 7 with fail
  have hBC : w.heap.size ≤ Cb := by rw [← hCb]; exact B3.out.size
  have BW := hid (bgo B3.out B3E.out)
  have HGE := hid (HG3.out.below' B3E.out)
  have HWE := hid (own_below HW3.out B3E.out)
  have HC1E := hid (own_below HC1.out B3E.out)
  have HC2E := hid (own_below HC2.out B3E.out)
  clear hmk B3 HG3 HW3 HC1 HC2 B3E hCb
  generalize World.alloc (World.alloc (World.alloc w3 _) _) _ = wE at *
  obtain ⟨T, hT⟩ : ∃ T, Cb + 1 = T := ⟨_, rfl⟩
  rw [hT] at HTB HXB ⊢
  obtain ⟨X, hX⟩ : ∃ X, T + 1 = X := ⟨_, rfl⟩
  rw [hX]
  rw [show Cb + 2 = X by omega] at HXB
  have hTw : w.heap.size ≤ T := by omega
  have hXR : X ≠ w.heap.size := by omega
  have BU := hid (show MBun w _ w.heap.size nil3 w.heap.size X Cb T 2 2 (.slice AW (2 + N) cW) (List.replicate (N + 2) (0 : Int)) (fun i => [.slice A1 14 c1, .slice A2 14 c2].getD i undef) (fun i => [rputCode N, rtakeCode N].getD i []) _ (rgths 0) (fun _ => []) from
    ⟨BW.out, HGE.out, HGE.out, HXB.out, by rw [HWL.out]; exact HWE.out, by
      have h : MN w.heap.size wE 2 2 Cb T (fun i => [.slice A1 14 c1, .slice A2 14 c2].getD i undef) (fun i => [rputCode N, rtakeCode N].getD i []) _ (fun _ => []) (fun _ => []) := MN.start (v := fun _ => undef) hBC hTw HCB.out HTB.out (fun i hi => (by rcases (show i = 0 ∨ i = 1 by omega) with rfl | rfl; exact HC1E.out; exact HC2E.out))
      rw [show rgths 0 = fun _ => [] from by funext j; unfold rgths rgPuts rgTakes; simp]
      exact h⟩)
  clear BW HGE HXB HWE HCB HTB HC1E HC2E hT hX hBC
  go_wp2_with fail
  go_loopw [11] (fun v wx => ∃ (k : Nat) (tv : Nat → Value) (av : Nat → List SV), k ≤ 20 ∧ v = .int .i64 k ∧ Hid (MBun w wx w.heap.size nil3 w.heap.size X Cb T 2 2 (.slice AW (2 + N) cW) (List.replicate (N + 2) (0 : Int)) (fun i => [.slice A1 14 c1, .slice A2 14 c2].getD i undef) (fun i => [rputCode N, rtakeCode N].getD i []) tv (rgths k) av)) (fun v _ => 20 - (intOf v).toNat)
  case atStart => exact ⟨0, _, _, Nat.zero_le _, rfl, BU⟩
  case round =>
    clear BU
    obtain ⟨k, tv, av, hkc, rfl, HX⟩ := hrel
    by_cases hlt : k < 20
    · have i1 : (k : Int) < 20 := by omega
      obtain ⟨Z, hZ⟩ : ∃ Z : Int, Z = ((k + 1 : Nat) : Int) := ⟨_, rfl⟩
      have iw : IntKind.i64.wrap ((k : Int) + 1) = Z := by rw [IntWalk.i64_in _ (by omega)]; omega
      have HZE := hid hZ
      have HBS := hid HX.out.below.size
      clear hZ
      obtain ⟨Aj, cj, hAj, HR0⟩ := HX.out.row (show 0 < 2 by decide)
      have hLk : ((rgths k) 0).length = k := by exact rgths_len (by decide)
      obtain ⟨L, hL⟩ : ∃ L, ((rgths k) 0).length = L := ⟨_, rfl⟩
      have hL20 : L ≤ 19 := by omega
      rw [hL] at hAj HR0
      obtain ⟨y, hy⟩ : ∃ y, ((rgths k) 0).zip (av 0) ++ [((⟨0, [Z]⟩ : VCall), (⟨(some ⟨wr.heap.size, 0, none⟩), 1, 1⟩ : SV))] = y := ⟨_, rfl⟩
      have HYE := hid hy
      have HYL := hid (show y.length = L + 1 by rw [← hy, List.length_append, HR0.len]; rfl)
      have HR := hid HR0
      have HAJ := hid hAj
      have c2x := HR.out.c2; have c3 := HR.out.c3; have f3 := HR.out.f3; have hcj := HR.out.hcj; have hcm := HR.out.hcm
      unfold maxLen at hcm
      clear hy HR0 hAj hL hLk
      have ltT := World.block_lt_of_cell? wr _ c3
      have ltX := World.block_lt_of_cell? wr _ c2x
      have HGW := hid (show ∀ wA w6, Below wr.heap.size wr wA → wA.grownBy w6 (Value.slice Aj L cj).ownBlock → (w6.cell? ⟨X, 2, none⟩ = some (.slice (some ⟨T, 0, none⟩) 2 2) ∧ w6.frozen? ⟨T, 0, none⟩ = false) ∧ w6.cell? ⟨T, 0, none⟩ = some (.slice Aj L cj) ∧ ∀ v, ((w6.setCell ⟨T, 0, none⟩ v).cell? ⟨X, 2, none⟩ = some (.slice (some ⟨T, 0, none⟩) 2 2) ∧ (w6.setCell ⟨T, 0, none⟩ v).frozen? ⟨T, 0, none⟩ = false) from HR.out.grow)
      have HFR := hid (show ∀ (k' : Nat) (c : VCall) (a : SV), ([⟨0, [Z]⟩] : List VCall)[k']? = some c → ([⟨(some ⟨wr.heap.size, 0, none⟩), 1, 1⟩] : List SV)[k']? = some a → (World.alloc (World.alloc wr (.cells #[.int .i64 Z] 3)) (.cells #[.int .i64 0, .slice (some ⟨wr.heap.size, 0, none⟩) 1 1] 53)).drew.ownsRow w.heap.size 3 1 a.v c.args.length (c.args.flatMap gI) from fun k' c a hc ha => by
        rw [List.getElem?_singleton] at hc ha
        split at hc
        · rename_i h; rw [if_pos h] at ha
          injection hc with hc; injection ha with ha
          subst hc ha
          exact own_below (own_fresh wr #[.int .i64 Z] 3 1 1 _ _ rfl HBS.out rfl (by simp [maxLen])) (bnew (bnil _) _).drew
        · cases hc)
      go_upto_region 10 with fail
      refine wp_region_held_drew (S := (fun w' => w'.cell? ⟨X, 2, none⟩ = some (.slice (some ⟨T, 0, none⟩) 2 2) ∧ w'.frozen? ⟨T, 0, none⟩ = false)) (by kernel_rfl) ?_ (fun hHeld => ?_)
      · (try dsimp only); (first | assumption | exact ⟨c2x, f3⟩ | exact HZ.1 | exact HZ.2.2 _ | (refine sees2f ?_ c2x c3 f3; (repeat (first | exact bnil _ | refine Below.drew ?_ | refine bnew ?_ _))))
      refine wpAnyH_take (i := 0) (oi := ⟨some 58, _, _, _, _, _⟩) (v := ?_) rfl (by kernel_rfl) (by kernel_rfl) (by kernel_rfl) (fun _ _ _ h => h) (Or.inl ⟨by rfl, ?_⟩) (by assumption) ?_
      rotate_left
      · intro w hSw; (try dsimp only at hSw); go_simp <;> with_reducible rfl
      try simp only [Act.put, List.setIfInBounds_toArray, List.set_cons_zero, List.set_cons_succ]
      refine wpAnyH_take (i := 1) (oi := ⟨some 59, _, _, _, _, _⟩) (v := ?_) rfl (by kernel_rfl) (by kernel_rfl) (by kernel_rfl) (fun _ _ _ h => h) (Or.inl ⟨by rfl, ?_⟩) (by assumption) ?_
      rotate_left
      · intro w hSw; (try dsimp only at hSw); go_simp <;> with_reducible rfl
      try simp only [Act.put, List.setIfInBounds_toArray, List.set_cons_zero, List.set_cons_succ]
      refine wpAnyH_take (i := 2) (oi := ⟨some 60, _, _, _, _, _⟩) (v := ?_) rfl (by kernel_rfl) (by kernel_rfl) (by kernel_rfl) (fun _ _ _ h => h) (Or.inl ⟨by rfl, ?_⟩) (by assumption) ?_
      rotate_left
      · intro w hSw; (try dsimp only at hSw); go_simp <;> with_reducible rfl
      try simp only [Act.put, List.setIfInBounds_toArray, List.set_cons_zero, List.set_cons_succ]
      refine wpAnyH_take (i := 3) (oi := ⟨some 61, _, _, _, _, _⟩) (v := ?_) rfl (by kernel_rfl) (by kernel_rfl) (by kernel_rfl) (fun _ _ _ h => h) (Or.inl ⟨by rfl, ?_⟩) (by assumption) ?_
      rotate_left
      · intro w hSw; (try dsimp only at hSw); go_simp <;> with_reducible rfl
      try simp only [Act.put, List.setIfInBounds_toArray, List.set_cons_zero, List.set_cons_succ]
      refine wpAnyH_take (i := 4) (oi := ⟨some 62, _, _, _, _, _⟩) (v := ?_) rfl (by kernel_rfl) (by kernel_rfl) (by kernel_rfl) (fun _ _ _ h => h) (Or.inl ⟨by rfl, ?_⟩) (by assumption) ?_
      rotate_left
      · intro w hSw; (try dsimp only at hSw); go_simp <;> with_reducible rfl
      try simp only [Act.put, List.setIfInBounds_toArray, List.set_cons_zero, List.set_cons_succ]
      refine wpAnyH_take (i := 6) (oi := ⟨some 64, _, _, _, _, _⟩) (v := ?_) rfl (by kernel_rfl) (by kernel_rfl) (by kernel_rfl) (fun _ _ _ h => h) (Or.inl ⟨by rfl, ?_⟩) (by assumption) ?_
      rotate_left
      · intro w hSw; (try dsimp only at hSw); go_simp <;> with_reducible rfl
      try simp only [Act.put, List.setIfInBounds_toArray, List.set_cons_zero, List.set_cons_succ]
      refine wpAnyH_take (i := 7) (oi := ⟨some 65, _, _, _, _, _⟩) (v := ?_) rfl (by kernel_rfl) (by kernel_rfl) (by kernel_rfl) (fun _ _ _ h => h) (Or.inl ⟨by rfl, ?_⟩) (by assumption) ?_
      rotate_left
      · intro w hSw; (try dsimp only at hSw); go_simp <;> with_reducible rfl
      try simp only [Act.put, List.setIfInBounds_toArray, List.set_cons_zero, List.set_cons_succ]
      refine wpAnyH_ready (rs := [5, 8]) (by kernel_rfl) (by simp) ?_
      refine AllReadyH.cons (o := ⟨some 63, _, _, _, _, _⟩) rfl (fun K hK => ?_) ?_
      go_simp
      refine hK.out _ _ ?_ (fun hHeld => ?_)
      · (try dsimp only); (first | assumption | exact ⟨c2x, f3⟩ | exact HZ.1 | exact HZ.2.2 _ | (refine sees2f ?_ c2x c3 f3; (repeat (first | exact bnil _ | refine Below.drew ?_ | refine bnew ?_ _))))
      clear hK K
      try simp only [Act.put, List.setIfInBounds_toArray, List.set_cons_zero, List.set_cons_succ]
      refine wpAnyH_ready (rs := [8]) (by kernel_rfl) (by simp) ?_
      refine AllReadyH.cons (o := ⟨some 66, _, _, _, _, _⟩) rfl (fun K hK => ?_) AllReadyH.nil
      go_simp
      refine hK.out _ _ ?_ (fun hHeld => ?_)
      · (try dsimp only); (first | assumption | exact ⟨c2x, f3⟩ | exact HZ.1 | exact HZ.2.2 _ | (refine sees2f ?_ c2x c3 f3; (repeat (first | exact bnil _ | refine Below.drew ?_ | refine bnew ?_ _))))
      clear hK K
      try simp only [Act.put, List.setIfInBounds_toArray, List.set_cons_zero, List.set_cons_succ]
      refine wpAnyH_take (i := 9) (oi := ⟨some 67, _, _, _, _, _⟩) (v := ?_) rfl (by kernel_rfl) (by kernel_rfl) (by kernel_rfl) (fun _ _ _ h => h) (Or.inl ⟨by rfl, ?_⟩) (by assumption) ?_
      rotate_left
      · intro w hSw; (try dsimp only at hSw); go_simp <;> with_reducible rfl
      try simp only [Act.put, List.setIfInBounds_toArray, List.set_cons_zero, List.set_cons_succ]
      refine wpAnyH_ready (rs := [10]) (by kernel_rfl) (by simp) ?_
      refine AllReadyH.cons (o := ⟨some 68, _, _, _, _, _⟩) rfl (fun K hK => ?_) AllReadyH.nil
      go_simp
      refine hK.out _ _ ?_ (fun hHeld => ?_)
      · (try dsimp only); (first | assumption | exact ⟨c2x, f3⟩ | exact HZ.1 | exact HZ.2.2 _ | (refine sees2f ?_ c2x c3 f3; (repeat (first | exact bnil _ | refine Below.drew ?_ | refine bnew ?_ _))))
      clear hK K
      try simp only [Act.put, List.setIfInBounds_toArray, List.set_cons_zero, List.set_cons_succ]
      refine wpAnyH_ready (rs := [11]) (by kernel_rfl) (by simp) ?_
      refine AllReadyH.cons (o := ⟨some 69, _, _, _, _, _⟩) rfl (fun K hK => ?_) AllReadyH.nil
      (refine step_appC elmCN gS_one rfl (.tmp 63) (.tmp 68) rfl (.slice Aj L cj) (((rgths k) 0).zip (av 0)) rfl (HR.out.row _ (bnew (bnew (bnil _) _) _).drew) [((⟨0, [Z]⟩ : VCall), (⟨(some ⟨wr.heap.size, 0, none⟩), 1, 1⟩ : SV))] y HYE rfl (Sl.drew (Sl.fresh' _ #[_, _] 53 2 1 _ (by simp) rfl)) rfl (by rw [HYL.out]; simp only [maxLen]; omega) (by rw [HYL.out]; omega) (Nat.le_trans HR.out.size (bnew (bnew (bnil _) _) _).drew.size) ?_; intro E7 c7' w6 hc6 hc7 HN6 HG6 HO6; have HZ := HGW.out _ w6 (bnew (bnew (bnil _) _) _).drew HG6.out)
      refine hK.out _ _ ?_ (fun hHeld => ?_)
      · (try dsimp only); (first | assumption | exact ⟨c2x, f3⟩ | exact HZ.1 | exact HZ.2.2 _ | (refine sees2f ?_ c2x c3 f3; (repeat (first | exact bnil _ | refine Below.drew ?_ | refine bnew ?_ _))))
      clear hK K
      try simp only [Act.put, List.setIfInBounds_toArray, List.set_cons_zero, List.set_cons_succ]
      refine wpAnyH_take (i := 12) (oi := ⟨some 70, _, _, _, _, _⟩) (v := ?_) rfl (by kernel_rfl) (by kernel_rfl) (by kernel_rfl) (fun _ _ _ h => h) (Or.inl ⟨by rfl, ?_⟩) (by assumption) ?_
      rotate_left
      · intro w hSw; (try dsimp only at hSw); go_simp <;> with_reducible rfl
      try simp only [Act.put, List.setIfInBounds_toArray, List.set_cons_zero, List.set_cons_succ]
      refine wpAnyH_ready (rs := [13]) (by kernel_rfl) (by simp) ?_
      refine AllReadyH.cons (o := ⟨none, _, _, _, _, _⟩) rfl (fun K hK => ?_) AllReadyH.nil
      go_simp
      refine hK.out _ _ ?_ (fun hHeld => ?_)
      · (try dsimp only); (first | assumption | exact ⟨c2x, f3⟩ | exact HZ.1 | exact HZ.2.2 _ | (refine sees2f ?_ c2x c3 f3; (repeat (first | exact bnil _ | refine Below.drew ?_ | refine bnew ?_ _))))
      clear hK K
      try dsimp only [Act.put]
      refine wpAnyH_done (by kernel_rfl) ?_ _
      rotate_left
      refine AllReadyH.cons (o := ⟨some 66, _, _, _, _, _⟩) rfl (fun K hK => ?_) AllReadyH.nil
      go_simp
      refine hK.out _ _ ?_ (fun hHeld => ?_)
      · (try dsimp only); (first | assumption | exact ⟨c2x, f3⟩ | exact HZ.1 | exact HZ.2.2 _ | (refine sees2f ?_ c2x c3 f3; (repeat (first | exact bnil _ | refine Below.drew ?_ | refine bnew ?_ _))))
      clear hK K
      try simp only [Act.put, List.setIfInBounds_toArray, List.set_cons_zero, List.set_cons_succ]
      refine wpAnyH_take (i := 9) (oi := ⟨some 67, _, _, _, _, _⟩) (v := ?_) rfl (by kernel_rfl) (by kernel_rfl) (by kernel_rfl) (fun _ _ _ h => h) (Or.inl ⟨by rfl, ?_⟩) (by assumption) ?_
      rotate_left
      · intro w hSw; (try dsimp only at hSw); go_simp <;> with_reducible rfl
      try simp only [Act.put, List.setIfInBounds_toArray, List.set_cons_zero, List.set_cons_succ]
      refine wpAnyH_ready (rs := [5, 10]) (by kernel_rfl) (by simp) ?_
      refine AllReadyH.cons (o := ⟨some 63, _, _, _, _, _⟩) rfl (fun K hK => ?_) ?_
      go_simp
      refine hK.out _ _ ?_ (fun hHeld => ?_)
      · (try dsimp only); (first | assumption | exact ⟨c2x, f3⟩ | exact HZ.1 | exact HZ.2.2 _ | (refine sees2f ?_ c2x c3 f3; (repeat (first | exact bnil _ | refine Below.drew ?_ | refine bnew ?_ _))))
      clear hK K
      try simp only [Act.put, List.setIfInBounds_toArray, List.set_cons_zero, List.set_cons_succ]
      refine wpAnyH_ready (rs := [10]) (by kernel_rfl) (by simp) ?_
      refine AllReadyH.cons (o := ⟨some 68, _, _, _, _, _⟩) rfl (fun K hK => ?_) AllReadyH.nil
      go_simp
      refine hK.out _ _ ?_ (fun hHeld => ?_)
      · (try dsimp only); (first | assumption | exact ⟨c2x, f3⟩ | exact HZ.1 | exact HZ.2.2 _ | (refine sees2f ?_ c2x c3 f3; (repeat (first | exact bnil _ | refine Below.drew ?_ | refine bnew ?_ _))))
      clear hK K
      try simp only [Act.put, List.setIfInBounds_toArray, List.set_cons_zero, List.set_cons_succ]
      refine wpAnyH_ready (rs := [11]) (by kernel_rfl) (by simp) ?_
      refine AllReadyH.cons (o := ⟨some 69, _, _, _, _, _⟩) rfl (fun K hK => ?_) AllReadyH.nil
      (refine step_appC elmCN gS_one rfl (.tmp 63) (.tmp 68) rfl (.slice Aj L cj) (((rgths k) 0).zip (av 0)) rfl (HR.out.row _ (bnew (bnew (bnil _) _) _).drew) [((⟨0, [Z]⟩ : VCall), (⟨(some ⟨wr.heap.size, 0, none⟩), 1, 1⟩ : SV))] y HYE rfl (Sl.drew (Sl.fresh' _ #[_, _] 53 2 1 _ (by simp) rfl)) rfl (by rw [HYL.out]; simp only [maxLen]; omega) (by rw [HYL.out]; omega) (Nat.le_trans HR.out.size (bnew (bnew (bnil _) _) _).drew.size) ?_; intro E7 c7' w6 hc6 hc7 HN6 HG6 HO6; have HZ := HGW.out _ w6 (bnew (bnew (bnil _) _) _).drew HG6.out)
      refine hK.out _ _ ?_ (fun hHeld => ?_)
      · (try dsimp only); (first | assumption | exact ⟨c2x, f3⟩ | exact HZ.1 | exact HZ.2.2 _ | (refine sees2f ?_ c2x c3 f3; (repeat (first | exact bnil _ | refine Below.drew ?_ | refine bnew ?_ _))))
      clear hK K
      try simp only [Act.put, List.setIfInBounds_toArray, List.set_cons_zero, List.set_cons_succ]
      refine wpAnyH_take (i := 12) (oi := ⟨some 70, _, _, _, _, _⟩) (v := ?_) rfl (by kernel_rfl) (by kernel_rfl) (by kernel_rfl) (fun _ _ _ h => h) (Or.inl ⟨by rfl, ?_⟩) (by assumption) ?_
      rotate_left
      · intro w hSw; (try dsimp only at hSw); go_simp <;> with_reducible rfl
      try simp only [Act.put, List.setIfInBounds_toArray, List.set_cons_zero, List.set_cons_succ]
      refine wpAnyH_ready (rs := [13]) (by kernel_rfl) (by simp) ?_
      refine AllReadyH.cons (o := ⟨none, _, _, _, _, _⟩) rfl (fun K hK => ?_) AllReadyH.nil
      go_simp
      refine hK.out _ _ ?_ (fun hHeld => ?_)
      · (try dsimp only); (first | assumption | exact ⟨c2x, f3⟩ | exact HZ.1 | exact HZ.2.2 _ | (refine sees2f ?_ c2x c3 f3; (repeat (first | exact bnil _ | refine Below.drew ?_ | refine bnew ?_ _))))
      clear hK K
      try dsimp only [Act.put]
      refine wpAnyH_done (by kernel_rfl) ?_ _
      rotate_left
      refine AllReadyH.cons (o := ⟨some 68, _, _, _, _, _⟩) rfl (fun K hK => ?_) AllReadyH.nil
      go_simp
      refine hK.out _ _ ?_ (fun hHeld => ?_)
      · (try dsimp only); (first | assumption | exact ⟨c2x, f3⟩ | exact HZ.1 | exact HZ.2.2 _ | (refine sees2f ?_ c2x c3 f3; (repeat (first | exact bnil _ | refine Below.drew ?_ | refine bnew ?_ _))))
      clear hK K
      try simp only [Act.put, List.setIfInBounds_toArray, List.set_cons_zero, List.set_cons_succ]
      refine wpAnyH_ready (rs := [5]) (by kernel_rfl) (by simp) ?_
      refine AllReadyH.cons (o := ⟨some 63, _, _, _, _, _⟩) rfl (fun K hK => ?_) AllReadyH.nil
      go_simp
      refine hK.out _ _ ?_ (fun hHeld => ?_)
      · (try dsimp only); (first | assumption | exact ⟨c2x, f3⟩ | exact HZ.1 | exact HZ.2.2 _ | (refine sees2f ?_ c2x c3 f3; (repeat (first | exact bnil _ | refine Below.drew ?_ | refine bnew ?_ _))))
      clear hK K
      try simp only [Act.put, List.setIfInBounds_toArray, List.set_cons_zero, List.set_cons_succ]
      refine wpAnyH_ready (rs := [11]) (by kernel_rfl) (by simp) ?_
      refine AllReadyH.cons (o := ⟨some 69, _, _, _, _, _⟩) rfl (fun K hK => ?_) AllReadyH.nil
      (refine step_appC elmCN gS_one rfl (.tmp 63) (.tmp 68) rfl (.slice Aj L cj) (((rgths k) 0).zip (av 0)) rfl (HR.out.row _ (bnew (bnew (bnil _) _) _).drew) [((⟨0, [Z]⟩ : VCall), (⟨(some ⟨wr.heap.size, 0, none⟩), 1, 1⟩ : SV))] y HYE rfl (Sl.drew (Sl.fresh' _ #[_, _] 53 2 1 _ (by simp) rfl)) rfl (by rw [HYL.out]; simp only [maxLen]; omega) (by rw [HYL.out]; omega) (Nat.le_trans HR.out.size (bnew (bnew (bnil _) _) _).drew.size) ?_; intro E7 c7' w6 hc6 hc7 HN6 HG6 HO6; have HZ := HGW.out _ w6 (bnew (bnew (bnil _) _) _).drew HG6.out)
      refine hK.out _ _ ?_ (fun hHeld => ?_)
      · (try dsimp only); (first | assumption | exact ⟨c2x, f3⟩ | exact HZ.1 | exact HZ.2.2 _ | (refine sees2f ?_ c2x c3 f3; (repeat (first | exact bnil _ | refine Below.drew ?_ | refine bnew ?_ _))))
      clear hK K
      try simp only [Act.put, List.setIfInBounds_toArray, List.set_cons_zero, List.set_cons_succ]
      refine wpAnyH_take (i := 12) (oi := ⟨some 70, _, _, _, _, _⟩) (v := ?_) rfl (by kernel_rfl) (by kernel_rfl) (by kernel_rfl) (fun _ _ _ h => h) (Or.inl ⟨by rfl, ?_⟩) (by assumption) ?_
      rotate_left
      · intro w hSw; (try dsimp only at hSw); go_simp <;> with_reducible rfl
      try simp only [Act.put, List.setIfInBounds_toArray, List.set_cons_zero, List.set_cons_succ]
      refine wpAnyH_ready (rs := [13]) (by kernel_rfl) (by simp) ?_
      refine AllReadyH.cons (o := ⟨none, _, _, _, _, _⟩) rfl (fun K hK => ?_) AllReadyH.nil
      go_simp
      refine hK.out _ _ ?_ (fun hHeld => ?_)
      · (try dsimp only); (first | assumption | exact ⟨c2x, f3⟩ | exact HZ.1 | exact HZ.2.2 _ | (refine sees2f ?_ c2x c3 f3; (repeat (first | exact bnil _ | refine Below.drew ?_ | refine bnew ?_ _))))
      clear hK K
      try dsimp only [Act.put]
      refine wpAnyH_done (by kernel_rfl) ?_ _
      rotate_left
      all_goals
        have HF := hid (HX.out.app (show 0 < 2 by decide) (wA := (World.alloc (World.alloc wr (.cells #[.int .i64 Z] 3)) (.cells #[.int .i64 0, .slice (some ⟨wr.heap.size, 0, none⟩) 1 1] 53)).drew) [⟨0, [Z]⟩] [⟨(some ⟨wr.heap.size, 0, none⟩), 1, 1⟩] (bnew (bnew (bnil _) _) _).drew rfl HFR.out HYE.out (by rw [HAJ.out]; exact HG6.out) (by rw [HAJ.out]; exact HO6.out) HN6.out)
        clear HZ HG6 HO6 HN6 HGW HFR HAJ HR HYE HYL c2x c3 f3 ltT ltX hcj hcm hc6 hc7 hL20
        obtain ⟨th2, hth2⟩ : ∃ th2, upd (rgths k) 0 (rgths k 0 ++ [⟨0, [Z]⟩]) = th2 := ⟨_, rfl⟩
        rw [hth2] at HF
        obtain ⟨av2, hav2⟩ : ∃ av2, upd av 0 (av 0 ++ [⟨some ⟨wr.heap.size, 0, none⟩, 1, 1⟩]) = av2 := ⟨_, rfl⟩
        rw [hav2] at HF
        have HTH2 := hid hth2
        generalize upd tv 0 _ = tv2 at *
        generalize World.setCell w6 _ _ = w7 at *
        have HX2 := HF
        clear HF hav2 iw HX HBS hHeld
        subst hth2
        go_wp2_with fail
        obtain ⟨Aj, cj, hAj, HR0⟩ := HX2.out.row (show 1 < 2 by decide)
        have hLk : ((upd (rgths k) 0 (rgths k 0 ++ [⟨0, [Z]⟩])) 1).length = k := by rw [upd_ne _ _ _ _ (by decide)]; exact rgths_len (by decide)
        obtain ⟨L, hL⟩ : ∃ L, ((upd (rgths k) 0 (rgths k 0 ++ [⟨0, [Z]⟩])) 1).length = L := ⟨_, rfl⟩
        have hL20 : L ≤ 19 := by omega
        rw [hL] at hAj HR0
        obtain ⟨y, hy⟩ : ∃ y, ((upd (rgths k) 0 (rgths k 0 ++ [⟨0, [Z]⟩])) 1).zip (av2 1) ++ [((⟨1, []⟩ : VCall), (⟨none, 0, 0⟩ : SV))] = y := ⟨_, rfl⟩
        have HYE := hid hy
        have HYL := hid (show y.length = L + 1 by rw [← hy, List.length_append, HR0.len]; rfl)
        have HR := hid HR0
        have HAJ := hid hAj
        have c2x := HR.out.c2; have c3 := HR.out.c3; have f3 := HR.out.f3; have hcj := HR.out.hcj; have hcm := HR.out.hcm
        unfold maxLen at hcm
        clear hy HR0 hAj hL hLk
        have ltT := World.block_lt_of_cell? w7 _ c3
        have ltX := World.block_lt_of_cell? w7 _ c2x
        have HGW := hid (show ∀ wA w6, Below w7.heap.size w7 wA → wA.grownBy w6 (Value.slice Aj L cj).ownBlock → (w6.cell? ⟨X, 2, none⟩ = some (.slice (some ⟨T, 0, none⟩) 2 2) ∧ w6.frozen? ⟨T, 1, none⟩ = false) ∧ w6.cell? ⟨T, 1, none⟩ = some (.slice Aj L cj) ∧ ∀ v, ((w6.setCell ⟨T, 1, none⟩ v).cell? ⟨X, 2, none⟩ = some (.slice (some ⟨T, 0, none⟩) 2 2) ∧ (w6.setCell ⟨T, 1, none⟩ v).frozen? ⟨T, 1, none⟩ = false) from HR.out.grow)
        have HFR := hid (show ∀ (k' : Nat) (c : VCall) (a : SV), ([⟨1, []⟩] : List VCall)[k']? = some c → ([⟨none, 0, 0⟩] : List SV)[k']? = some a → (World.alloc w7 (.cells #[.int .i64 1, .slice none 0 0] 53)).drew.ownsRow w.heap.size 3 1 a.v c.args.length (c.args.flatMap gI) from fun k' c a hc ha => by
          rw [List.getElem?_singleton] at hc ha
          split at hc
          · rename_i h; rw [if_pos h] at ha
            injection hc with hc; injection ha with ha
            subst hc ha
            exact own0 _ _ _ 1
          · cases hc)
        go_upto_region 11 with fail
        refine wp_region_held_drew (S := (fun w' => w'.cell? ⟨X, 2, none⟩ = some (.slice (some ⟨T, 0, none⟩) 2 2) ∧ w'.frozen? ⟨T, 1, none⟩ = false)) (by kernel_rfl) ?_ (fun hHeld => ?_)
        · (try dsimp only); (first | assumption | exact ⟨c2x, f3⟩ | exact HZ.1 | exact HZ.2.2 _ | (refine sees2f ?_ c2x c3 f3; (repeat (first | exact bnil _ | refine Below.drew ?_ | refine bnew ?_ _))))
        refine wpAnyH_take (i := 0) (oi := ⟨some 71, _, _, _, _, _⟩) (v := ?_) rfl (by kernel_rfl) (by kernel_rfl) (by kernel_rfl) (fun _ _ _ h => h) (Or.inl ⟨by rfl, ?_⟩) (by assumption) ?_
        rotate_left
        · intro w hSw; (try dsimp only at hSw); go_simp <;> with_reducible rfl
        try simp only [Act.put, List.setIfInBounds_toArray, List.set_cons_zero, List.set_cons_succ]
        refine wpAnyH_take (i := 1) (oi := ⟨some 72, _, _, _, _, _⟩) (v := ?_) rfl (by kernel_rfl) (by kernel_rfl) (by kernel_rfl) (fun _ _ _ h => h) (Or.inl ⟨by rfl, ?_⟩) (by assumption) ?_
        rotate_left
        · intro w hSw; (try dsimp only at hSw); go_simp <;> with_reducible rfl
        try simp only [Act.put, List.setIfInBounds_toArray, List.set_cons_zero, List.set_cons_succ]
        refine wpAnyH_take (i := 2) (oi := ⟨some 73, _, _, _, _, _⟩) (v := ?_) rfl (by kernel_rfl) (by kernel_rfl) (by kernel_rfl) (fun _ _ _ h => h) (Or.inl ⟨by rfl, ?_⟩) (by assumption) ?_
        rotate_left
        · intro w hSw; (try dsimp only at hSw); go_simp <;> with_reducible rfl
        try simp only [Act.put, List.setIfInBounds_toArray, List.set_cons_zero, List.set_cons_succ]
        refine wpAnyH_take (i := 3) (oi := ⟨some 74, _, _, _, _, _⟩) (v := ?_) rfl (by kernel_rfl) (by kernel_rfl) (by kernel_rfl) (fun _ _ _ h => h) (Or.inl ⟨by rfl, ?_⟩) (by assumption) ?_
        rotate_left
        · intro w hSw; (try dsimp only at hSw); go_simp <;> with_reducible rfl
        try simp only [Act.put, List.setIfInBounds_toArray, List.set_cons_zero, List.set_cons_succ]
        refine wpAnyH_take (i := 4) (oi := ⟨some 75, _, _, _, _, _⟩) (v := ?_) rfl (by kernel_rfl) (by kernel_rfl) (by kernel_rfl) (fun _ _ _ h => h) (Or.inl ⟨by rfl, ?_⟩) (by assumption) ?_
        rotate_left
        · intro w hSw; (try dsimp only at hSw); go_simp <;> with_reducible rfl
        try simp only [Act.put, List.setIfInBounds_toArray, List.set_cons_zero, List.set_cons_succ]
        refine wpAnyH_take (i := 6) (oi := ⟨some 77, _, _, _, _, _⟩) (v := ?_) rfl (by kernel_rfl) (by kernel_rfl) (by kernel_rfl) (fun _ _ _ h => h) (Or.inl ⟨by rfl, ?_⟩) (by assumption) ?_
        rotate_left
        · intro w hSw; (try dsimp only at hSw); go_simp <;> with_reducible rfl
        try simp only [Act.put, List.setIfInBounds_toArray, List.set_cons_zero, List.set_cons_succ]
        refine wpAnyH_ready (rs := [5, 7]) (by kernel_rfl) (by simp) ?_
        refine AllReadyH.cons (o := ⟨some 76, _, _, _, _, _⟩) rfl (fun K hK => ?_) ?_
        go_simp
        refine hK.out _ _ ?_ (fun hHeld => ?_)
        · (try dsimp only); (first | assumption | exact ⟨c2x, f3⟩ | exact HZ.1 | exact HZ.2.2 _ | (refine sees2f ?_ c2x c3 f3; (repeat (first | exact bnil _ | refine Below.drew ?_ | refine bnew ?_ _))))
        clear hK K
        try simp only [Act.put, List.setIfInBounds_toArray, List.set_cons_zero, List.set_cons_succ]
        refine wpAnyH_ready (rs := [7]) (by kernel_rfl) (by simp) ?_
        refine AllReadyH.cons (o := ⟨some 78, _, _, _, _, _⟩) rfl (fun K hK => ?_) AllReadyH.nil
        go_simp
        refine hK.out _ _ ?_ (fun hHeld => ?_)
        · (try dsimp only); (first | assumption | exact ⟨c2x, f3⟩ | exact HZ.1 | exact HZ.2.2 _ | (refine sees2f ?_ c2x c3 f3; (repeat (first | exact bnil _ | refine Below.drew ?_ | refine bnew ?_ _))))
        clear hK K
        try simp only [Act.put, List.setIfInBounds_toArray, List.set_cons_zero, List.set_cons_succ]
        refine wpAnyH_ready (rs := [8]) (by kernel_rfl) (by simp) ?_
        refine AllReadyH.cons (o := ⟨some 79, _, _, _, _, _⟩) rfl (fun K hK => ?_) AllReadyH.nil
        (refine step_appC elmCN gS_one rfl (.tmp 76) (.tmp 78) rfl (.slice Aj L cj) (((upd (rgths k) 0 (rgths k 0 ++ [⟨0, [Z]⟩])) 1).zip (av2 1)) rfl (HR.out.row _ (bnew (bnil _) _).drew) [((⟨1, []⟩ : VCall), (⟨none, 0, 0⟩ : SV))] y HYE rfl (Sl.drew (Sl.fresh' _ #[_, _] 53 2 1 _ (by simp) rfl)) rfl (by rw [HYL.out]; simp only [maxLen]; omega) (by rw [HYL.out]; omega) (Nat.le_trans HR.out.size (bnew (bnil _) _).drew.size) ?_; intro E7 c7' w6 hc6 hc7 HN6 HG6 HO6; have HZ := HGW.out _ w6 (bnew (bnil _) _).drew HG6.out)
        refine hK.out _ _ ?_ (fun hHeld => ?_)
        · (try dsimp only); (first | assumption | exact ⟨c2x, f3⟩ | exact HZ.1 | exact HZ.2.2 _ | (refine sees2f ?_ c2x c3 f3; (repeat (first | exact bnil _ | refine Below.drew ?_ | refine bnew ?_ _))))
        clear hK K
        try simp only [Act.put, List.setIfInBounds_toArray, List.set_cons_zero, List.set_cons_succ]
        refine wpAnyH_take (i := 9) (oi := ⟨some 80, _, _, _, _, _⟩) (v := ?_) rfl (by kernel_rfl) (by kernel_rfl) (by kernel_rfl) (fun _ _ _ h => h) (Or.inl ⟨by rfl, ?_⟩) (by assumption) ?_
        rotate_left
        · intro w hSw; (try dsimp only at hSw); go_simp <;> with_reducible rfl
        try simp only [Act.put, List.setIfInBounds_toArray, List.set_cons_zero, List.set_cons_succ]
        refine wpAnyH_ready (rs := [10]) (by kernel_rfl) (by simp) ?_
        refine AllReadyH.cons (o := ⟨none, _, _, _, _, _⟩) rfl (fun K hK => ?_) AllReadyH.nil
        go_simp
        refine hK.out _ _ ?_ (fun hHeld => ?_)
        · (try dsimp only); (first | assumption | exact ⟨c2x, f3⟩ | exact HZ.1 | exact HZ.2.2 _ | (refine sees2f ?_ c2x c3 f3; (repeat (first | exact bnil _ | refine Below.drew ?_ | refine bnew ?_ _))))
        clear hK K
        try dsimp only [Act.put]
        refine wpAnyH_done (by kernel_rfl) ?_ _
        rotate_left
        refine AllReadyH.cons (o := ⟨some 78, _, _, _, _, _⟩) rfl (fun K hK => ?_) AllReadyH.nil
        go_simp
        refine hK.out _ _ ?_ (fun hHeld => ?_)
        · (try dsimp only); (first | assumption | exact ⟨c2x, f3⟩ | exact HZ.1 | exact HZ.2.2 _ | (refine sees2f ?_ c2x c3 f3; (repeat (first | exact bnil _ | refine Below.drew ?_ | refine bnew ?_ _))))
        clear hK K
        try simp only [Act.put, List.setIfInBounds_toArray, List.set_cons_zero, List.set_cons_succ]
        refine wpAnyH_ready (rs := [5]) (by kernel_rfl) (by simp) ?_
        refine AllReadyH.cons (o := ⟨some 76, _, _, _, _, _⟩) rfl (fun K hK => ?_) AllReadyH.nil
        go_simp
        refine hK.out _ _ ?_ (fun hHeld => ?_)
        · (try dsimp only); (first | assumption | exact ⟨c2x, f3⟩ | exact HZ.1 | exact HZ.2.2 _ | (refine sees2f ?_ c2x c3 f3; (repeat (first | exact bnil _ | refine Below.drew ?_ | refine bnew ?_ _))))
        clear hK K
        try simp only [Act.put, List.setIfInBounds_toArray, List.set_cons_zero, List.set_cons_succ]
        refine wpAnyH_ready (rs := [8]) (by kernel_rfl) (by simp) ?_
        refine AllReadyH.cons (o := ⟨some 79, _, _, _, _, _⟩) rfl (fun K hK => ?_) AllReadyH.nil
        (refine step_appC elmCN gS_one rfl (.tmp 76) (.tmp 78) rfl (.slice Aj L cj) (((upd (rgths k) 0 (rgths k 0 ++ [⟨0, [Z]⟩])) 1).zip (av2 1)) rfl (HR.out.row _ (bnew (bnil _) _).drew) [((⟨1, []⟩ : VCall), (⟨none, 0, 0⟩ : SV))] y HYE rfl (Sl.drew (Sl.fresh' _ #[_, _] 53 2 1 _ (by simp) rfl)) rfl (by rw [HYL.out]; simp only [maxLen]; omega) (by rw [HYL.out]; omega) (Nat.le_trans HR.out.size (bnew (bnil _) _).drew.size) ?_; intro E7 c7' w6 hc6 hc7 HN6 HG6 HO6; have HZ := HGW.out _ w6 (bnew (bnil _) _).drew HG6.out)
        refine hK.out _ _ ?_ (fun hHeld => ?_)
        · (try dsimp only); (first | assumption | exact ⟨c2x, f3⟩ | exact HZ.1 | exact HZ.2.2 _ | (refine sees2f ?_ c2x c3 f3; (repeat (first | exact bnil _ | refine Below.drew ?_ | refine bnew ?_ _))))
        clear hK K
        try simp only [Act.put, List.setIfInBounds_toArray, List.set_cons_zero, List.set_cons_succ]
        refine wpAnyH_take (i := 9) (oi := ⟨some 80, _, _, _, _, _⟩) (v := ?_) rfl (by kernel_rfl) (by kernel_rfl) (by kernel_rfl) (fun _ _ _ h => h) (Or.inl ⟨by rfl, ?_⟩) (by assumption) ?_
        rotate_left
        · intro w hSw; (try dsimp only at hSw); go_simp <;> with_reducible rfl
        try simp only [Act.put, List.setIfInBounds_toArray, List.set_cons_zero, List.set_cons_succ]
        refine wpAnyH_ready (rs := [10]) (by kernel_rfl) (by simp) ?_
        refine AllReadyH.cons (o := ⟨none, _, _, _, _, _⟩) rfl (fun K hK => ?_) AllReadyH.nil
        go_simp
        refine hK.out _ _ ?_ (fun hHeld => ?_)
        · (try dsimp only); (first | assumption | exact ⟨c2x, f3⟩ | exact HZ.1 | exact HZ.2.2 _ | (refine sees2f ?_ c2x c3 f3; (repeat (first | exact bnil _ | refine Below.drew ?_ | refine bnew ?_ _))))
        clear hK K
        try dsimp only [Act.put]
        refine wpAnyH_done (by kernel_rfl) ?_ _
        rotate_left
        all_goals
          have HF := hid (HX2.out.app (show 1 < 2 by decide) (wA := (World.alloc w7 (.cells #[.int .i64 1, .slice none 0 0] 53)).drew) [⟨1, []⟩] [⟨none, 0, 0⟩] (bnew (bnil _) _).drew rfl HFR.out HYE.out (by rw [HAJ.out]; exact HG6.out) (by rw [HAJ.out]; exact HO6.out) HN6.out)
          clear HZ HG6 HO6 HN6 HGW HFR HAJ HR HYE HYL c2x c3 f3 ltT ltX hcj hcm hc6 hc7 hL20
          go_wp2
          go_roundw
          case rel => exact ⟨k + 1, _, _, by omega, by go_num, hid (by have h1 := HF.out; rw [HZE.out, rgths_upd] at h1; exact h1)⟩
          case measure => simp [intOf]; omega
    · obtain rfl : k = 20 := by omega
      have i1 : ¬ (((20 : Nat) : Int)) < 20 := by omega
      have HTR := hid (HT.out.below HX.out.below)
      have HMA := hid (rgM_at h8 HX.out.mn)
      have y0 : wr.cell? ⟨X, 0, none⟩ = some (.slice AW (2 + N) cW) := HX.out.hx.cell 0
      have y1 : wr.cell? ⟨X, 1, none⟩ = some (.slice (some ⟨Cb, 0, none⟩) 2 2) := HX.out.hx.cell 1
      have y2 : wr.cell? ⟨X, 2, none⟩ = some (.slice (some ⟨T, 0, none⟩) 2 2) := HX.out.hx.cell 2
      have z0 := HX.out.hr.frozen 0
      have z1 := HX.out.hr.frozen 1
      have z2 := HX.out.hr.frozen 2
      have z3 : wr.cell? ⟨w.heap.size, 0, none⟩ = some (.slice none 0 0) := HX.out.hr.cell 0
      have z4 : wr.cell? ⟨w.heap.size, 1, none⟩ = some (.slice none 0 0) := HX.out.hr.cell 1
      have z5 : wr.cell? ⟨w.heap.size, 2, none⟩ = some (.slice none 0 0) := HX.out.hr.cell 2
      go_upto_region 12 with fail
      refine wp_region_held_drew (S := (fun w' => w'.cell? ⟨X, 0, none⟩ = some (.slice AW (2 + N) cW) ∧ w'.cell? ⟨X, 1, none⟩ = some (.slice (some ⟨Cb, 0, none⟩) 2 2) ∧ w'.cell? ⟨X, 2, none⟩ = some (.slice (some ⟨T, 0, none⟩) 2 2) ∧ w'.frozen? ⟨w.heap.size, 0, none⟩ = false ∧ w'.frozen? ⟨w.heap.size, 1, none⟩ = false ∧ w'.frozen? ⟨w.heap.size, 2, none⟩ = false)) (by kernel_rfl) ?_ (fun hHeld => ?_)
      · (try dsimp only); (first | assumption | exact ⟨y0, y1, y2, z0, z1, z2⟩ | exact ⟨y0', y1', y2', z0', z1', z2'⟩ | exact keep16s hXR y0' y1' y2' z0' z1' z2' _ _ _)
      refine wpAnyH_take (i := 0) (oi := ⟨some 81, _, _, _, _, _⟩) (v := ?_) rfl (by kernel_rfl) (by kernel_rfl) (by kernel_rfl) (fun _ _ _ h => h) (Or.inl ⟨by rfl, ?_⟩) (by assumption) ?_
      rotate_left
      · intro w hSw; (try dsimp only at hSw); go_simp <;> with_reducible rfl
      try simp only [Act.put, List.setIfInBounds_toArray, List.set_cons_zero, List.set_cons_succ]
      refine wpAnyH_take (i := 1) (oi := ⟨some 82, _, _, _, _, _⟩) (v := ?_) rfl (by kernel_rfl) (by kernel_rfl) (by kernel_rfl) (fun _ _ _ h => h) (Or.inl ⟨by rfl, ?_⟩) (by assumption) ?_
      rotate_left
      · intro w hSw; (try dsimp only at hSw); go_simp <;> with_reducible rfl
      try simp only [Act.put, List.setIfInBounds_toArray, List.set_cons_zero, List.set_cons_succ]
      refine wpAnyH_ready (rs := [2]) (by kernel_rfl) (by simp) ?_
      refine AllReadyH.cons (o := ⟨some 83, _, _, _, _, _⟩) rfl (fun K hK => ?_) AllReadyH.nil
      go_simp
      refine (run_may AW (some ⟨Cb, 0, none⟩) (some ⟨T, 0, none⟩) (2 + N) cW 2 2 2 2 _ _ (by omega) (by decide) (by decide) (HTR.out.below (bnil _).drew) (HMA.out.below (bnil _).drew)).mono ?_; rintro e w4 ⟨rfl, b4⟩; have b4 := bgo (bnil wr).drew b4; obtain ⟨y0', y1', y2', z0', z1', z2', z3', z4', z5'⟩ := keep16 b4 y0 y1 y2 z0 z1 z2 z3 z4 z5; clear y0 y1 y2 z0 z1 z2 z3 z4 z5
      go_wp2_with fail
      refine hK.out _ _ ?_ (fun hHeld => ?_)
      · (try dsimp only); (first | assumption | exact ⟨y0, y1, y2, z0, z1, z2⟩ | exact ⟨y0', y1', y2', z0', z1', z2'⟩ | exact keep16s hXR y0' y1' y2' z0' z1' z2' _ _ _)
      clear hK K
      try simp only [Act.put, List.setIfInBounds_toArray, List.set_cons_zero, List.set_cons_succ]
      refine wpAnyH_ready (rs := [3]) (by kernel_rfl) (by simp) ?_
      refine AllReadyH.cons (o := ⟨none, _, _, _, _, _⟩) rfl (fun K hK => ?_) AllReadyH.nil
      go_simp
      refine hK.out _ _ ?_ (fun hHeld => ?_)
      · (try dsimp only); (first | assumption | exact ⟨y0, y1, y2, z0, z1, z2⟩ | exact ⟨y0', y1', y2', z0', z1', z2'⟩ | exact keep16s hXR y0' y1' y2' z0' z1' z2' _ _ _)
      clear hK K
      try dsimp only [Act.put]
      refine wpAnyH_take (i := 4) (oi := ⟨some 3, _, _, _, _, _⟩) (v := ?_) rfl (by kernel_rfl) (by kernel_rfl) (by kernel_rfl) (fun _ _ _ h => h) (Or.inl ⟨by rfl, ?_⟩) (by assumption) ?_
      rotate_left
      · intro w hSw; (try dsimp only at hSw); go_simp <;> with_reducible rfl
      try simp only [Act.put, List.setIfInBounds_toArray, List.set_cons_zero, List.set_cons_succ]
      refine wpAnyH_done (by kernel_rfl) ?_ _
      rotate_left
      go_wp2_with fail
      have HXZ := hid (HX.out.step b4)
      obtain ⟨q0, q1, q2⟩ := set3N HXZ.out.hr (.slice AW (2 + N) cW) (.slice (some ⟨Cb, 0, none⟩) 2 2) (.slice (some ⟨T, 0, none⟩) 2 2)
      refine bodyPost_ret (v := .tuple #[.agg #[.slice AW (2 + N) cW, .slice (some ⟨Cb, 0, none⟩) 2 2, .slice (some ⟨T, 0, none⟩) 2 2], .bool true]) (by simp [results, Tryd.results27, go_sem, q0, q1, q2]) rfl ?_
      exact ⟨AW, cW, Cb, T, _, tv, av, rfl, by have h := own_res HXZ.out.own HXZ.out.hr (by decide) (.slice AW (2 + N) cW) (.slice (some ⟨Cb, 0, none⟩) 2 2) (.slice (some ⟨T, 0, none⟩) 2 2); rw [HWL.out] at h; exact h, HXZ.out.mn.res HXZ.out.hr _ _ _, ((HXZ.out.below.setCell (p := ⟨w.heap.size, 0, none⟩) (Nat.le_refl _) _).setCell (p := ⟨w.heap.size, 1, none⟩) (Nat.le_refl _) _).setCell (p := ⟨w.heap.size, 2, none⟩) (Nat.le_refl _) _⟩
end Go.Proofs.YtiinnkdhccgelaaDoor
