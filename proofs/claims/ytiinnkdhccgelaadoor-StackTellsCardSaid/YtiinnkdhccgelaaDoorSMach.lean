/-
  barographkeep.stackMachine: its walk. Written by gen_omach.py.
-/
import Derived.Test.YtiinnkdhccgelaaDoorMBun
import Derived.Test.YtiinnkdhccgelaaDoorKeep16
import Derived.Test.YtiinnkdhccgelaaDoorODef
import Derived.Test.YtiinnkdhccgelaaDoorRunMay
import Derived.Test.YtiinnkdhccgelaaDoorCodesS
import Derived.Deep.RegionHeld
namespace Go.Proofs.YtiinnkdhccgelaaDoor
open Go.RowKit
set_option linter.unusedVariables false

/-- what the maker gives -/
def SMachPost (w : World) (N : Nat) (kinds : List Bool) (calls : Nat) (e : Ending) (w' : World) : Prop :=
  ∃ (AW : Option Addr) (cW Cb T : Nat) (cv tv : Nat → Value) (av : Nat → List SV), e = .returned (.tuple #[.agg #[.slice AW (2 * N + 2) cW, .slice (some ⟨Cb, 0, none⟩) 2 2, .slice (some ⟨T, 0, none⟩) 3 3], .bool true]) ∧
    w'.ownsRow w.heap.size 3 1 (.slice AW (2 * N + 2) cW) (2 * N + 2) ((swords N).flatMap gI) ∧ MN w.heap.size w' 2 3 Cb T cv (fun i => [spushCode, spopCode].getD i []) tv (oths 100 kinds calls) av ∧ Below w.heap.size w w'
set_option maxHeartbeats 8000000 in
set_option maxRecDepth 100000 in
theorem stack_machine (N : Nat) (D : Option Addr) (r s calls : Nat) (kinds : List Bool) (w : World) (h1 : 1 ≤ N) (h8 : N ≤ 8) (hcl : calls ≤ 57) (hr : r ≤ 9223372036854775807) (hD : Sl w 1 D r (kinds.flatMap fun b : Bool => [Value.bool b])) (hT : STab w) :
    Calls Tryd.prog 35 #[.int .i64 (N : Int), .slice D r s, .int .i64 (calls : Int)] w fun e w' => SMachPost w N kinds calls e w' := by
  have HDD := hid hD; have HT := hid hT
  have HRL := hid (show kinds.length = r by have := hD.1; rw [flatMap_len _ 1 (fun _ => rfl), Nat.mul_one] at this; omega)
  have HWL := hid (show ((swords N) : List Int).length = 2 * N + 2 by exact swords_len ⟨h1, h8⟩)
  clear hD hT
  go_enter Tryd.func35, Tryd.ntmps35
  go_wp2_with fail
  have HG := hid (Blk.new w 34 #[.slice none 0 0, .slice none 0 0, .slice none 0 0])
  have B0 := hid (bnew (bnil w) (.cells #[.slice none 0 0, .slice none 0 0, .slice none 0 0] 34))
  generalize World.alloc w (.cells #[.slice none 0 0, .slice none 0 0, .slice none 0 0] 34) = w0 at *
  refine (stack_words N w0 h1 h8).mono ?_
  rintro e w1 ⟨v1, rfl, o1⟩
  obtain ⟨AW, cW, rfl, hcW, hcW2⟩ := o1.form
  rw [HWL.out] at hcW ⊢
  have OW1 := hid (show w1.ownsRow w0.heap.size 3 1 (.slice AW (2 * N + 2) cW) (2 * N + 2) ((swords N).flatMap gI) by have h := o1.own; rw [HWL.out] at h; exact h)
  have BW1 := hid o1.below
  clear o1
  go_wp2_with fail
  refine (stack_push N w1 h1 h8).mono ?_
  rintro e w2 ⟨v2, rfl, o2⟩
  obtain ⟨A1, c1, rfl, hc1, hc12⟩ := o2.form
  have O2 := hid o2
  clear o2
  rw [show (spushCode).length = 28 from rfl] at *
  go_wp2_with fail
  refine (stack_pop N w2 h1 h8).mono ?_
  rintro e w3 ⟨v3, rfl, o3⟩
  obtain ⟨A2, c2, rfl, hc2, hc22⟩ := o3.form
  have O3 := hid o3
  clear o3
  rw [show (spopCode).length = 29 from rfl] at *
  have B13 := hid (bgo (bgo BW1.out O2.out.below) O3.out.below)
  have B3 := hid (bgo B0.out B13.out)
  have HG3 := hid (HG.out.below' B13.out)
  have HW3 := hid (own_below (own_lower OW1.out B0.out.size) (bgo O2.out.below O3.out.below))
  have HC1 := hid (own_below (own_lower O2.out.own (bgo B0.out BW1.out).size) O3.out.below)
  have HC2 := hid (own_lower O3.out.own (bgo (bgo B0.out BW1.out) O2.out.below).size)
  clear HG B0 OW1 BW1 O2 O3 B13
  obtain ⟨Cb, hCb⟩ : ∃ Cb, w3.heap.size = Cb := ⟨_, rfl⟩
  have hmk := mkT3 (w3.alloc (.cells #[.slice A1 28 c1, .slice A2 29 c2] 28))
  have BE := bnew (bnew (bnew (bnil w3) (.cells #[.slice A1 28 c1, .slice A2 29 c2] 28)) (.cells #[.slice none 0 0, .slice none 0 0, .slice none 0 0] 54)) (.cells #[.slice AW (2 * N + 2) cW, .slice (some ⟨Cb, 0, none⟩) 2 2, .slice (some ⟨Cb + 1, 0, none⟩) 3 3] 34)
  have HCB := hid ((blkN w3 28 #[.slice A1 28 c1, .slice A2 29 c2] Cb hCb).below' (bnew (bnew (bnil _) (.cells #[.slice none 0 0, .slice none 0 0, .slice none 0 0] 54)) (.cells #[.slice AW (2 * N + 2) cW, .slice (some ⟨Cb, 0, none⟩) 2 2, .slice (some ⟨Cb + 1, 0, none⟩) 3 3] 34)))
  have HTB := hid ((blkN (w3.alloc (.cells #[.slice A1 28 c1, .slice A2 29 c2] 28)) 54 #[.slice none 0 0, .slice none 0 0, .slice none 0 0] (Cb + 1) (by rw [World.size_alloc, hCb])).below' (bnew (bnil _) (.cells #[.slice AW (2 * N + 2) cW, .slice (some ⟨Cb, 0, none⟩) 2 2, .slice (some ⟨Cb + 1, 0, none⟩) 3 3] 34)))
  have HXB := hid (blkN ((w3.alloc (.cells #[.slice A1 28 c1, .slice A2 29 c2] 28)).alloc (.cells #[.slice none 0 0, .slice none 0 0, .slice none 0 0] 54)) 34 #[.slice AW (2 * N + 2) cW, .slice (some ⟨Cb, 0, none⟩) 2 2, .slice (some ⟨Cb + 1, 0, none⟩) 3 3] (Cb + 2) (by rw [World.size_alloc, World.size_alloc, hCb]))
  have B3E := hid BE
  clear BE
  go_upto_region 7 with fail
  have hBC : w.heap.size ≤ Cb := by rw [← hCb]; exact B3.out.size
  have BW := hid (bgo B3.out B3E.out)
  have HGE := hid (HG3.out.below' B3E.out)
  have HWE := hid (own_below HW3.out B3E.out)
  have HC1E := hid (own_below HC1.out B3E.out)
  have HC2E := hid (own_below HC2.out B3E.out)
  clear hmk B3 HG3 HW3 HC1 HC2 B3E hCb
  generalize World.alloc (World.alloc (World.alloc w3 _) _) _ = wE at *
  obtain ⟨T, hT⟩ : ∃ T, Cb + 1 = T := ⟨_, rfl⟩
  rw [hT] at HTB HXB ⊢
  obtain ⟨X, hX⟩ : ∃ X, T + 1 = X := ⟨_, rfl⟩
  rw [hX]
  rw [show Cb + 2 = X by omega] at HXB
  have hTw : w.heap.size ≤ T := by omega
  have hXR : X ≠ w.heap.size := by omega
  have BU := hid (show MBun w _ w.heap.size nil3 w.heap.size X Cb T 2 3 (.slice AW (2 * N + 2) cW) (swords N) (fun i => [.slice A1 28 c1, .slice A2 29 c2].getD i undef) (fun i => [spushCode, spopCode].getD i []) _ (oths 100 kinds 0) (fun _ => []) from
    ⟨BW.out, HGE.out, HGE.out, HXB.out, by rw [HWL.out]; exact HWE.out, MN.start (v := fun _ => undef) hBC hTw HCB.out HTB.out (fun i hi => (by rcases (show i = 0 ∨ i = 1 by omega) with rfl | rfl; exact HC1E.out; exact HC2E.out))⟩)
  clear BW HGE HXB HWE HCB HTB HC1E HC2E hT hX hBC
  go_wp2_with fail
  go_loopw [15] (fun v wx => ∃ (k : Nat) (tv : Nat → Value) (av : Nat → List SV), k ≤ calls ∧ v = .int .i64 k ∧ Hid (MBun w wx w.heap.size nil3 w.heap.size X Cb T 2 3 (.slice AW (2 * N + 2) cW) (swords N) (fun i => [.slice A1 28 c1, .slice A2 29 c2].getD i undef) (fun i => [spushCode, spopCode].getD i []) tv (oths 100 kinds k) av)) (fun v _ => calls - (intOf v).toNat)
  case atStart => exact ⟨0, _, _, Nat.zero_le _, rfl, BU⟩
  case round =>
    clear BU
    obtain ⟨k, tv, av, hkc, rfl, HX⟩ := hrel
    by_cases hlt : k < calls
    · have i1 : (k : Int) < (calls : Int) := by omega
      obtain ⟨j, hj⟩ : ∃ j, k % 3 = j := ⟨_, rfl⟩
      have hj3 : j < 3 := by omega
      have ij3 : (j : Int) < 3 := by omega
      have em : (k : Int).tmod 3 = (j : Int) := by rw [Int.tmod_eq_emod_of_nonneg (by omega)]; omega
      have em2 : (k : Int) % 3 = (j : Int) := by omega
      have iw : IntKind.i64.wrap (j : Int) = (j : Int) := IntWalk.i64_in _ (by omega)
      have HJ := hid hj
      obtain ⟨ba, hba⟩ : ∃ ba, wr.heap.size = ba := ⟨_, rfl⟩
      have HBA := hid hba
      obtain ⟨bc, hbc⟩ : ∃ bc, ba + 1 = bc := ⟨_, rfl⟩
      have HBC2 := hid hbc
      have HBC := hid (show wr.heap.size ≤ bc by omega)
      have HBW := hid (show w.heap.size ≤ ba by rw [← hba]; exact HX.out.below.size)
      clear hj hba hbc
      have hcase : (k < r ∧ ∃ ad b, D = some ad ∧ wr.cell? (ad.add k) = some (.bool b) ∧ kinds.getD k false = b) ∨ (¬ k < r ∧ kinds.getD k false = false) := by
        by_cases h2 : k < r
        · obtain ⟨ad, e, hc⟩ := HDD.out.2 (by omega)
          obtain ⟨b, hb⟩ : ∃ b, kinds[k]? = some b := ⟨_, List.getElem?_eq_getElem (by rw [HRL.out]; exact h2)⟩
          have hh := flatMap_at (fun b : Bool => [Value.bool b]) 1 (fun _ => rfl) kinds k 0 b hb (by decide)
          rw [Nat.mul_one, Nat.add_zero] at hh
          exact .inl ⟨h2, ad, b, e, cell_below HX.out.below (hc k _ (by rw [hh]; rfl)), by rw [List.getD_eq_getElem?_getD, hb]; rfl⟩
        · exact .inr ⟨h2, by rw [List.getD_eq_getElem?_getD, List.getElem?_eq_none (by rw [HRL.out]; omega)]; rfl⟩
      rcases hcase with ⟨h2, ad, b, rfl, cx, hkb⟩ | ⟨h2, hkb⟩
      · have i2 : (k : Int) < (r : Int) := by omega
        have ltD := World.block_lt_of_cell? wr _ cx
        cases b with
        | true =>
          have HCC := hid (show ocall 100 kinds k = ⟨1, []⟩ by unfold ocall; rw [if_pos hkb])
          clear hkb
          go_upto_region 13 with fail
          clear cx ltD
          have B5 := hid (bnew (bnew (bnil wr) (.cells #[.int .i64 (100 + (k : Int))] 3)) (.cells #[.int .i64 1, .slice none 0 0] 53))
          have XC := hid (blkN (wr.alloc (.cells #[.int .i64 (100 + (k : Int))] 3)) 53 #[.int .i64 1, .slice none 0 0] bc (by rw [World.size_alloc, HBA.out, HBC2.out]))
          have OA := hid (show ((wr.alloc (.cells #[.int .i64 (100 + (k : Int))] 3)).alloc (.cells #[.int .i64 1, .slice none 0 0] 53)).ownsRow w.heap.size 3 1 (.slice none 0 0) 0 [] from own0 _ _ _ 1)
          have hba := HBA.out
          rw [hba]
          try rw [HBC2.out]
          clear hba
          generalize World.alloc (World.alloc wr (.cells #[.int .i64 (100 + (k : Int))] 3)) (.cells #[.int .i64 1, .slice none 0 0] 53) = w5 at *
          have HX5 := hid (HX.out.step B5.out)
          obtain ⟨Aj, cj, hAj, HR0⟩ := HX5.out.row hj3
          have hL20 : ((oths 100 kinds k) j).length ≤ 19 := by rw [oths_len _ _ k j hj3]; omega
          obtain ⟨L, hL⟩ : ∃ L, ((oths 100 kinds k) j).length = L := ⟨_, rfl⟩
          rw [hL] at hAj HR0 hL20
          obtain ⟨y, hy⟩ : ∃ y, ((oths 100 kinds k) j).zip (av j) ++ [((⟨1, []⟩ : VCall), (⟨none, 0, 0⟩ : SV))] = y := ⟨_, rfl⟩
          have HYE := hid hy
          have HYL := hid (show y.length = L + 1 by rw [← hy, List.length_append, HR0.len]; rfl)
          have HR := hid HR0
          have HAJ := hid hAj
          have c2x := HR.out.c2; have c3 := HR.out.c3; have f3 := HR.out.f3; have hcj := HR.out.hcj; have hcm := HR.out.hcm
          have c5 : w5.cell? ⟨bc, 0, none⟩ = some (.int .i64 1) := XC.out.cell 0
          have c6 : w5.cell? ⟨bc, 1, none⟩ = some (.slice none 0 0) := XC.out.cell 1
          unfold maxLen at hcm
          clear hy HR0 hAj hL
          have ltT := World.block_lt_of_cell? w5 _ c3
          have ltX := World.block_lt_of_cell? w5 _ c2x
          have ltC := World.block_lt_of_cell? w5 _ c5
          have hTbc : T ≠ bc := by have h1 := HX.out.mn.tb.lt; have h2 := HBC.out; omega
          have hXbc : X ≠ bc := by have h1 := HX.out.hx.lt; have h2 := HBC.out; omega
          have HAB := hid (show ∀ b, (Value.slice Aj L cj).ownBlock = some b → b ≠ bc from fun b hb => by
            have h1 := own_ge (HX.out.mn.rows j hj3).2.1 b (by rw [HAJ.out]; exact hb)
            have h2 := HBC.out
            omega)
          have HGW := hid (show ∀ wA w6, Below w5.heap.size w5 wA → wA.grownBy w6 (Value.slice Aj L cj).ownBlock → (w6.cell? ⟨X, 2, none⟩ = some (.slice (some ⟨T, 0, none⟩) 3 3) ∧ w6.frozen? ⟨T, j, none⟩ = false ∧ w6.cell? ⟨bc, 0, none⟩ = some (.int .i64 1) ∧ w6.cell? ⟨bc, 1, none⟩ = some (.slice none 0 0)) ∧ w6.cell? ⟨T, j, none⟩ = some (.slice Aj L cj) ∧
            ∀ v, ((w6.setCell ⟨T, j, none⟩ v).cell? ⟨X, 2, none⟩ = some (.slice (some ⟨T, 0, none⟩) 3 3) ∧ (w6.setCell ⟨T, j, none⟩ v).frozen? ⟨T, j, none⟩ = false ∧ (w6.setCell ⟨T, j, none⟩ v).cell? ⟨bc, 0, none⟩ = some (.int .i64 1) ∧ (w6.setCell ⟨T, j, none⟩ v).cell? ⟨bc, 1, none⟩ = some (.slice none 0 0)) from fun wA w6 hb hG => by
            have gC : Blk w6 bc 53 #[.int .i64 1, .slice none 0 0] := (Chg.of_grown hG (M := fun k => (Value.slice Aj L cj).ownBlock = some k) (fun k e => e)).blk (XC.out.below' hb) (fun e => HAB.out bc e rfl)
            have gC2 := fun v => gC.far (p := ⟨T, j, none⟩) (fun e => hTbc e.symm) v
            obtain ⟨⟨g1, g2⟩, g3, g4⟩ := HR.out.grow wA w6 hb hG
            exact ⟨⟨g1, g2, gC.cell 0, gC.cell 1⟩, g3, fun v => ⟨(g4 v).1, (g4 v).2, (gC2 v).cell 0, (gC2 v).cell 1⟩⟩)
          have HFR := hid (show ∀ (k' : Nat) (c : VCall) (a : SV), ([⟨1, []⟩] : List VCall)[k']? = some c → ([⟨none, 0, 0⟩] : List SV)[k']? = some a → ((w5.alloc (.cells #[.int .i64 1, .slice none 0 0] 53))).drew.ownsRow w.heap.size 3 1 a.v c.args.length (c.args.flatMap gI) from fun k' c a hc ha => by
            rw [List.getElem?_singleton] at hc ha
            split at hc
            · rename_i h; rw [if_pos h] at ha
              injection hc with hc; injection ha with ha
              subst hc ha
              exact own_below OA.out (bnew (bnil _) _).drew
            · cases hc)
          refine wp_region_held_drew (S := (fun w' => w'.cell? ⟨X, 2, none⟩ = some (.slice (some ⟨T, 0, none⟩) 3 3) ∧ w'.frozen? ⟨T, j, none⟩ = false ∧ w'.cell? ⟨bc, 0, none⟩ = some (.int .i64 1) ∧ w'.cell? ⟨bc, 1, none⟩ = some (.slice none 0 0))) (by kernel_rfl) ?_ (fun hHeld => ?_)
          · (try dsimp only); (first | assumption | exact ⟨c2x, f3, c5, c6⟩ | exact HZ.1 | exact HZ.2.2 _ | (refine sees4f ?_ c2x c3 f3 c5 c6; (repeat (first | exact bnil _ | refine Below.drew ?_ | refine bnew ?_ _))))
          refine wpAnyH_take (i := 0) (oi := ⟨some 79, _, _, _, _, _⟩) (v := ?_) rfl (by kernel_rfl) (by kernel_rfl) (by kernel_rfl) (fun _ _ _ h => h) (Or.inl ⟨by rfl, ?_⟩) (by assumption) ?_
          rotate_left
          · intro w hSw; (try dsimp only at hSw); go_simp <;> with_reducible rfl
          try simp only [Act.put, List.setIfInBounds_toArray, List.set_cons_zero, List.set_cons_succ]
          refine wpAnyH_take (i := 1) (oi := ⟨some 80, _, _, _, _, _⟩) (v := ?_) rfl (by kernel_rfl) (by kernel_rfl) (by kernel_rfl) (fun _ _ _ h => h) (Or.inl ⟨by rfl, ?_⟩) (by assumption) ?_
          rotate_left
          · intro w hSw; (try dsimp only at hSw); go_simp <;> with_reducible rfl
          try simp only [Act.put, List.setIfInBounds_toArray, List.set_cons_zero, List.set_cons_succ]
          refine wpAnyH_take (i := 2) (oi := ⟨some 81, _, _, _, _, _⟩) (v := ?_) rfl (by kernel_rfl) (by kernel_rfl) (by kernel_rfl) (fun _ _ _ h => h) (Or.inl ⟨by rfl, ?_⟩) (by assumption) ?_
          rotate_left
          · intro w hSw; (try dsimp only at hSw); go_simp <;> with_reducible rfl
          try simp only [Act.put, List.setIfInBounds_toArray, List.set_cons_zero, List.set_cons_succ]
          refine wpAnyH_take (i := 3) (oi := ⟨some 82, _, _, _, _, _⟩) (v := ?_) rfl (by kernel_rfl) (by kernel_rfl) (by kernel_rfl) (fun _ _ _ h => h) (Or.inl ⟨by rfl, ?_⟩) (by assumption) ?_
          rotate_left
          · intro w hSw; (try dsimp only at hSw); go_simp <;> with_reducible rfl
          try simp only [Act.put, List.setIfInBounds_toArray, List.set_cons_zero, List.set_cons_succ]
          refine wpAnyH_take (i := 4) (oi := ⟨some 83, _, _, _, _, _⟩) (v := ?_) rfl (by kernel_rfl) (by kernel_rfl) (by kernel_rfl) (fun _ _ _ h => h) (Or.inl ⟨by rfl, ?_⟩) (by assumption) ?_
          rotate_left
          · intro w hSw; (try dsimp only at hSw); go_simp <;> with_reducible rfl
          try simp only [Act.put, List.setIfInBounds_toArray, List.set_cons_zero, List.set_cons_succ]
          refine wpAnyH_take (i := 5) (oi := ⟨some 84, _, _, _, _, _⟩) (v := ?_) rfl (by kernel_rfl) (by kernel_rfl) (by kernel_rfl) (fun _ _ _ h => h) (Or.inl ⟨by rfl, ?_⟩) (by assumption) ?_
          rotate_left
          · intro w hSw; (try dsimp only at hSw); go_simp <;> with_reducible rfl
          try simp only [Act.put, List.setIfInBounds_toArray, List.set_cons_zero, List.set_cons_succ]
          refine wpAnyH_take (i := 6) (oi := ⟨some 85, _, _, _, _, _⟩) (v := ?_) rfl (by kernel_rfl) (by kernel_rfl) (by kernel_rfl) (fun _ _ _ h => h) (Or.inl ⟨by rfl, ?_⟩) (by assumption) ?_
          rotate_left
          · intro w hSw; (try dsimp only at hSw); go_simp <;> with_reducible rfl
          try simp only [Act.put, List.setIfInBounds_toArray, List.set_cons_zero, List.set_cons_succ]
          refine wpAnyH_take (i := 7) (oi := ⟨some 86, _, _, _, _, _⟩) (v := ?_) rfl (by kernel_rfl) (by kernel_rfl) (by kernel_rfl) (fun _ _ _ h => h) (Or.inl ⟨by rfl, ?_⟩) (by assumption) ?_
          rotate_left
          · intro w hSw; (try dsimp only at hSw); go_simp <;> with_reducible rfl
          try simp only [Act.put, List.setIfInBounds_toArray, List.set_cons_zero, List.set_cons_succ]
          refine wpAnyH_take (i := 8) (oi := ⟨some 87, _, _, _, _, _⟩) (v := ?_) rfl (by kernel_rfl) (by kernel_rfl) (by kernel_rfl) (fun _ _ _ h => h) (Or.inl ⟨by rfl, ?_⟩) (by assumption) ?_
          rotate_left
          · intro w hSw; (try dsimp only at hSw); go_simp <;> with_reducible rfl
          try simp only [Act.put, List.setIfInBounds_toArray, List.set_cons_zero, List.set_cons_succ]
          refine wpAnyH_take (i := 10) (oi := ⟨some 89, _, _, _, _, _⟩) (v := ?_) rfl (by kernel_rfl) (by kernel_rfl) (by kernel_rfl) (fun _ _ _ h => h) (Or.inl ⟨by rfl, ?_⟩) (by assumption) ?_
          rotate_left
          · intro w hSw; (try dsimp only at hSw); go_simp <;> with_reducible rfl
          try simp only [Act.put, List.setIfInBounds_toArray, List.set_cons_zero, List.set_cons_succ]
          refine wpAnyH_ready (rs := [9, 11]) (by kernel_rfl) (by simp) ?_
          refine AllReadyH.cons (o := ⟨some 88, _, _, _, _, _⟩) rfl (fun K hK => ?_) ?_
          go_simp
          refine hK.out _ _ ?_ (fun hHeld => ?_)
          · (try dsimp only); (first | assumption | exact ⟨c2x, f3, c5, c6⟩ | exact HZ.1 | exact HZ.2.2 _ | (refine sees4f ?_ c2x c3 f3 c5 c6; (repeat (first | exact bnil _ | refine Below.drew ?_ | refine bnew ?_ _))))
          clear hK K
          try simp only [Act.put, List.setIfInBounds_toArray, List.set_cons_zero, List.set_cons_succ]
          refine wpAnyH_ready (rs := [11]) (by kernel_rfl) (by simp) ?_
          refine AllReadyH.cons (o := ⟨some 90, _, _, _, _, _⟩) rfl (fun K hK => ?_) AllReadyH.nil
          go_simp
          refine hK.out _ _ ?_ (fun hHeld => ?_)
          · (try dsimp only); (first | assumption | exact ⟨c2x, f3, c5, c6⟩ | exact HZ.1 | exact HZ.2.2 _ | (refine sees4f ?_ c2x c3 f3 c5 c6; (repeat (first | exact bnil _ | refine Below.drew ?_ | refine bnew ?_ _))))
          clear hK K
          try simp only [Act.put, List.setIfInBounds_toArray, List.set_cons_zero, List.set_cons_succ]
          refine wpAnyH_ready (rs := [12]) (by kernel_rfl) (by simp) ?_
          refine AllReadyH.cons (o := ⟨some 91, _, _, _, _, _⟩) rfl (fun K hK => ?_) AllReadyH.nil
          (refine step_appC elmCN gS_one rfl (.tmp 88) (.tmp 90) rfl (.slice Aj L cj) (((oths 100 kinds k) j).zip (av j)) rfl (HR.out.row _ (bnew (bnil _) _).drew) [((⟨1, []⟩ : VCall), (⟨none, 0, 0⟩ : SV))] y HYE rfl (Sl.drew (Sl.fresh' _ #[_, _] 53 2 1 _ (by simp) rfl)) rfl (by rw [HYL.out]; simp only [maxLen]; omega) (by rw [HYL.out]; omega) (Nat.le_trans HR.out.size (bnew (bnil _) _).drew.size) ?_; intro E7 c7' w6 hc6 hc7 HN6 HG6 HO6; have HZ := HGW.out _ w6 (bnew (bnil _) _).drew HG6.out)
          refine hK.out _ _ ?_ (fun hHeld => ?_)
          · (try dsimp only); (first | assumption | exact ⟨c2x, f3, c5, c6⟩ | exact HZ.1 | exact HZ.2.2 _ | (refine sees4f ?_ c2x c3 f3 c5 c6; (repeat (first | exact bnil _ | refine Below.drew ?_ | refine bnew ?_ _))))
          clear hK K
          try simp only [Act.put, List.setIfInBounds_toArray, List.set_cons_zero, List.set_cons_succ]
          refine wpAnyH_take (i := 13) (oi := ⟨some 92, _, _, _, _, _⟩) (v := ?_) rfl (by kernel_rfl) (by kernel_rfl) (by kernel_rfl) (fun _ _ _ h => h) (Or.inl ⟨by rfl, ?_⟩) (by assumption) ?_
          rotate_left
          · intro w hSw; (try dsimp only at hSw); go_simp <;> with_reducible rfl
          try simp only [Act.put, List.setIfInBounds_toArray, List.set_cons_zero, List.set_cons_succ]
          refine wpAnyH_ready (rs := [14]) (by kernel_rfl) (by simp) ?_
          refine AllReadyH.cons (o := ⟨none, _, _, _, _, _⟩) rfl (fun K hK => ?_) AllReadyH.nil
          go_simp
          refine hK.out _ _ ?_ (fun hHeld => ?_)
          · (try dsimp only); (first | assumption | exact ⟨c2x, f3, c5, c6⟩ | exact HZ.1 | exact HZ.2.2 _ | (refine sees4f ?_ c2x c3 f3 c5 c6; (repeat (first | exact bnil _ | refine Below.drew ?_ | refine bnew ?_ _))))
          clear hK K
          try dsimp only [Act.put]
          refine wpAnyH_done (by kernel_rfl) ?_ _
          rotate_left
          refine AllReadyH.cons (o := ⟨some 90, _, _, _, _, _⟩) rfl (fun K hK => ?_) AllReadyH.nil
          go_simp
          refine hK.out _ _ ?_ (fun hHeld => ?_)
          · (try dsimp only); (first | assumption | exact ⟨c2x, f3, c5, c6⟩ | exact HZ.1 | exact HZ.2.2 _ | (refine sees4f ?_ c2x c3 f3 c5 c6; (repeat (first | exact bnil _ | refine Below.drew ?_ | refine bnew ?_ _))))
          clear hK K
          try simp only [Act.put, List.setIfInBounds_toArray, List.set_cons_zero, List.set_cons_succ]
          refine wpAnyH_ready (rs := [9]) (by kernel_rfl) (by simp) ?_
          refine AllReadyH.cons (o := ⟨some 88, _, _, _, _, _⟩) rfl (fun K hK => ?_) AllReadyH.nil
          go_simp
          refine hK.out _ _ ?_ (fun hHeld => ?_)
          · (try dsimp only); (first | assumption | exact ⟨c2x, f3, c5, c6⟩ | exact HZ.1 | exact HZ.2.2 _ | (refine sees4f ?_ c2x c3 f3 c5 c6; (repeat (first | exact bnil _ | refine Below.drew ?_ | refine bnew ?_ _))))
          clear hK K
          try simp only [Act.put, List.setIfInBounds_toArray, List.set_cons_zero, List.set_cons_succ]
          refine wpAnyH_ready (rs := [12]) (by kernel_rfl) (by simp) ?_
          refine AllReadyH.cons (o := ⟨some 91, _, _, _, _, _⟩) rfl (fun K hK => ?_) AllReadyH.nil
          (refine step_appC elmCN gS_one rfl (.tmp 88) (.tmp 90) rfl (.slice Aj L cj) (((oths 100 kinds k) j).zip (av j)) rfl (HR.out.row _ (bnew (bnil _) _).drew) [((⟨1, []⟩ : VCall), (⟨none, 0, 0⟩ : SV))] y HYE rfl (Sl.drew (Sl.fresh' _ #[_, _] 53 2 1 _ (by simp) rfl)) rfl (by rw [HYL.out]; simp only [maxLen]; omega) (by rw [HYL.out]; omega) (Nat.le_trans HR.out.size (bnew (bnil _) _).drew.size) ?_; intro E7 c7' w6 hc6 hc7 HN6 HG6 HO6; have HZ := HGW.out _ w6 (bnew (bnil _) _).drew HG6.out)
          refine hK.out _ _ ?_ (fun hHeld => ?_)
          · (try dsimp only); (first | assumption | exact ⟨c2x, f3, c5, c6⟩ | exact HZ.1 | exact HZ.2.2 _ | (refine sees4f ?_ c2x c3 f3 c5 c6; (repeat (first | exact bnil _ | refine Below.drew ?_ | refine bnew ?_ _))))
          clear hK K
          try simp only [Act.put, List.setIfInBounds_toArray, List.set_cons_zero, List.set_cons_succ]
          refine wpAnyH_take (i := 13) (oi := ⟨some 92, _, _, _, _, _⟩) (v := ?_) rfl (by kernel_rfl) (by kernel_rfl) (by kernel_rfl) (fun _ _ _ h => h) (Or.inl ⟨by rfl, ?_⟩) (by assumption) ?_
          rotate_left
          · intro w hSw; (try dsimp only at hSw); go_simp <;> with_reducible rfl
          try simp only [Act.put, List.setIfInBounds_toArray, List.set_cons_zero, List.set_cons_succ]
          refine wpAnyH_ready (rs := [14]) (by kernel_rfl) (by simp) ?_
          refine AllReadyH.cons (o := ⟨none, _, _, _, _, _⟩) rfl (fun K hK => ?_) AllReadyH.nil
          go_simp
          refine hK.out _ _ ?_ (fun hHeld => ?_)
          · (try dsimp only); (first | assumption | exact ⟨c2x, f3, c5, c6⟩ | exact HZ.1 | exact HZ.2.2 _ | (refine sees4f ?_ c2x c3 f3 c5 c6; (repeat (first | exact bnil _ | refine Below.drew ?_ | refine bnew ?_ _))))
          clear hK K
          try dsimp only [Act.put]
          refine wpAnyH_done (by kernel_rfl) ?_ _
          rotate_left
          all_goals
            have HF := hid (HX5.out.app hj3 [⟨1, []⟩] [⟨none, 0, 0⟩] (bnew (bnil _) _).drew rfl HFR.out HYE.out (by rw [HAJ.out]; exact HG6.out) (by rw [HAJ.out]; exact HO6.out) HN6.out)
            clear HZ HG6 HO6 HN6
            go_wp2
            go_roundw
            case rel => exact ⟨k + 1, _, _, by omega, by go_num, hid (by have h1 := HF.out; rw [← HCC.out, oths_upd _ _ HJ.out] at h1; exact h1)⟩
            case measure => simp [intOf]; omega
        | false =>
          have HCC := hid (show ocall 100 kinds k = ⟨0, [100 + (k : Int)]⟩ by unfold ocall; rw [if_neg (by rw [hkb]; decide)]; simp)
          clear hkb
          go_upto_region 13 with fail
          clear cx ltD
          have B5 := hid (bnew (bnew (bnil wr) (.cells #[.int .i64 (100 + (k : Int))] 3)) (.cells #[.int .i64 0, .slice (some ⟨ba, 0, none⟩) 1 1] 53))
          have XC := hid (blkN (wr.alloc (.cells #[.int .i64 (100 + (k : Int))] 3)) 53 #[.int .i64 0, .slice (some ⟨ba, 0, none⟩) 1 1] bc (by rw [World.size_alloc, HBA.out, HBC2.out]))
          have OA := hid (show ((wr.alloc (.cells #[.int .i64 (100 + (k : Int))] 3)).alloc (.cells #[.int .i64 0, .slice (some ⟨ba, 0, none⟩) 1 1] 53)).ownsRow w.heap.size 3 1 (.slice (some ⟨ba, 0, none⟩) 1 1) 1 ([100 + (k : Int)].flatMap gI) from own_below ⟨rfl, .inr ⟨ba, 1, #[.int .i64 (100 + (k : Int))], rfl, HBW.out, blkN wr _ _ ba HBA.out, Nat.le_refl _, by simp [maxLen], rfl, rfl⟩⟩ (bnew (bnil _) _))
          have hba := HBA.out
          rw [hba]
          try rw [HBC2.out]
          clear hba
          generalize World.alloc (World.alloc wr (.cells #[.int .i64 (100 + (k : Int))] 3)) (.cells #[.int .i64 0, .slice (some ⟨ba, 0, none⟩) 1 1] 53) = w5 at *
          have HX5 := hid (HX.out.step B5.out)
          obtain ⟨Aj, cj, hAj, HR0⟩ := HX5.out.row hj3
          have hL20 : ((oths 100 kinds k) j).length ≤ 19 := by rw [oths_len _ _ k j hj3]; omega
          obtain ⟨L, hL⟩ : ∃ L, ((oths 100 kinds k) j).length = L := ⟨_, rfl⟩
          rw [hL] at hAj HR0 hL20
          obtain ⟨y, hy⟩ : ∃ y, ((oths 100 kinds k) j).zip (av j) ++ [((⟨0, [100 + (k : Int)]⟩ : VCall), (⟨(some ⟨ba, 0, none⟩), 1, 1⟩ : SV))] = y := ⟨_, rfl⟩
          have HYE := hid hy
          have HYL := hid (show y.length = L + 1 by rw [← hy, List.length_append, HR0.len]; rfl)
          have HR := hid HR0
          have HAJ := hid hAj
          have c2x := HR.out.c2; have c3 := HR.out.c3; have f3 := HR.out.f3; have hcj := HR.out.hcj; have hcm := HR.out.hcm
          have c5 : w5.cell? ⟨bc, 0, none⟩ = some (.int .i64 0) := XC.out.cell 0
          have c6 : w5.cell? ⟨bc, 1, none⟩ = some (.slice (some ⟨ba, 0, none⟩) 1 1) := XC.out.cell 1
          unfold maxLen at hcm
          clear hy HR0 hAj hL
          have ltT := World.block_lt_of_cell? w5 _ c3
          have ltX := World.block_lt_of_cell? w5 _ c2x
          have ltC := World.block_lt_of_cell? w5 _ c5
          have hTbc : T ≠ bc := by have h1 := HX.out.mn.tb.lt; have h2 := HBC.out; omega
          have hXbc : X ≠ bc := by have h1 := HX.out.hx.lt; have h2 := HBC.out; omega
          have HAB := hid (show ∀ b, (Value.slice Aj L cj).ownBlock = some b → b ≠ bc from fun b hb => by
            have h1 := own_ge (HX.out.mn.rows j hj3).2.1 b (by rw [HAJ.out]; exact hb)
            have h2 := HBC.out
            omega)
          have HGW := hid (show ∀ wA w6, Below w5.heap.size w5 wA → wA.grownBy w6 (Value.slice Aj L cj).ownBlock → (w6.cell? ⟨X, 2, none⟩ = some (.slice (some ⟨T, 0, none⟩) 3 3) ∧ w6.frozen? ⟨T, j, none⟩ = false ∧ w6.cell? ⟨bc, 0, none⟩ = some (.int .i64 0) ∧ w6.cell? ⟨bc, 1, none⟩ = some (.slice (some ⟨ba, 0, none⟩) 1 1)) ∧ w6.cell? ⟨T, j, none⟩ = some (.slice Aj L cj) ∧
            ∀ v, ((w6.setCell ⟨T, j, none⟩ v).cell? ⟨X, 2, none⟩ = some (.slice (some ⟨T, 0, none⟩) 3 3) ∧ (w6.setCell ⟨T, j, none⟩ v).frozen? ⟨T, j, none⟩ = false ∧ (w6.setCell ⟨T, j, none⟩ v).cell? ⟨bc, 0, none⟩ = some (.int .i64 0) ∧ (w6.setCell ⟨T, j, none⟩ v).cell? ⟨bc, 1, none⟩ = some (.slice (some ⟨ba, 0, none⟩) 1 1)) from fun wA w6 hb hG => by
            have gC : Blk w6 bc 53 #[.int .i64 0, .slice (some ⟨ba, 0, none⟩) 1 1] := (Chg.of_grown hG (M := fun k => (Value.slice Aj L cj).ownBlock = some k) (fun k e => e)).blk (XC.out.below' hb) (fun e => HAB.out bc e rfl)
            have gC2 := fun v => gC.far (p := ⟨T, j, none⟩) (fun e => hTbc e.symm) v
            obtain ⟨⟨g1, g2⟩, g3, g4⟩ := HR.out.grow wA w6 hb hG
            exact ⟨⟨g1, g2, gC.cell 0, gC.cell 1⟩, g3, fun v => ⟨(g4 v).1, (g4 v).2, (gC2 v).cell 0, (gC2 v).cell 1⟩⟩)
          have HFR := hid (show ∀ (k' : Nat) (c : VCall) (a : SV), ([⟨0, [100 + (k : Int)]⟩] : List VCall)[k']? = some c → ([⟨(some ⟨ba, 0, none⟩), 1, 1⟩] : List SV)[k']? = some a → ((w5.alloc (.cells #[.int .i64 0, .slice (some ⟨ba, 0, none⟩) 1 1] 53))).drew.ownsRow w.heap.size 3 1 a.v c.args.length (c.args.flatMap gI) from fun k' c a hc ha => by
            rw [List.getElem?_singleton] at hc ha
            split at hc
            · rename_i h; rw [if_pos h] at ha
              injection hc with hc; injection ha with ha
              subst hc ha
              exact own_below OA.out (bnew (bnil _) _).drew
            · cases hc)
          refine wp_region_held_drew (S := (fun w' => w'.cell? ⟨X, 2, none⟩ = some (.slice (some ⟨T, 0, none⟩) 3 3) ∧ w'.frozen? ⟨T, j, none⟩ = false ∧ w'.cell? ⟨bc, 0, none⟩ = some (.int .i64 0) ∧ w'.cell? ⟨bc, 1, none⟩ = some (.slice (some ⟨ba, 0, none⟩) 1 1))) (by kernel_rfl) ?_ (fun hHeld => ?_)
          · (try dsimp only); (first | assumption | exact ⟨c2x, f3, c5, c6⟩ | exact HZ.1 | exact HZ.2.2 _ | (refine sees4f ?_ c2x c3 f3 c5 c6; (repeat (first | exact bnil _ | refine Below.drew ?_ | refine bnew ?_ _))))
          refine wpAnyH_take (i := 0) (oi := ⟨some 79, _, _, _, _, _⟩) (v := ?_) rfl (by kernel_rfl) (by kernel_rfl) (by kernel_rfl) (fun _ _ _ h => h) (Or.inl ⟨by rfl, ?_⟩) (by assumption) ?_
          rotate_left
          · intro w hSw; (try dsimp only at hSw); go_simp <;> with_reducible rfl
          try simp only [Act.put, List.setIfInBounds_toArray, List.set_cons_zero, List.set_cons_succ]
          refine wpAnyH_take (i := 1) (oi := ⟨some 80, _, _, _, _, _⟩) (v := ?_) rfl (by kernel_rfl) (by kernel_rfl) (by kernel_rfl) (fun _ _ _ h => h) (Or.inl ⟨by rfl, ?_⟩) (by assumption) ?_
          rotate_left
          · intro w hSw; (try dsimp only at hSw); go_simp <;> with_reducible rfl
          try simp only [Act.put, List.setIfInBounds_toArray, List.set_cons_zero, List.set_cons_succ]
          refine wpAnyH_take (i := 2) (oi := ⟨some 81, _, _, _, _, _⟩) (v := ?_) rfl (by kernel_rfl) (by kernel_rfl) (by kernel_rfl) (fun _ _ _ h => h) (Or.inl ⟨by rfl, ?_⟩) (by assumption) ?_
          rotate_left
          · intro w hSw; (try dsimp only at hSw); go_simp <;> with_reducible rfl
          try simp only [Act.put, List.setIfInBounds_toArray, List.set_cons_zero, List.set_cons_succ]
          refine wpAnyH_take (i := 3) (oi := ⟨some 82, _, _, _, _, _⟩) (v := ?_) rfl (by kernel_rfl) (by kernel_rfl) (by kernel_rfl) (fun _ _ _ h => h) (Or.inl ⟨by rfl, ?_⟩) (by assumption) ?_
          rotate_left
          · intro w hSw; (try dsimp only at hSw); go_simp <;> with_reducible rfl
          try simp only [Act.put, List.setIfInBounds_toArray, List.set_cons_zero, List.set_cons_succ]
          refine wpAnyH_take (i := 4) (oi := ⟨some 83, _, _, _, _, _⟩) (v := ?_) rfl (by kernel_rfl) (by kernel_rfl) (by kernel_rfl) (fun _ _ _ h => h) (Or.inl ⟨by rfl, ?_⟩) (by assumption) ?_
          rotate_left
          · intro w hSw; (try dsimp only at hSw); go_simp <;> with_reducible rfl
          try simp only [Act.put, List.setIfInBounds_toArray, List.set_cons_zero, List.set_cons_succ]
          refine wpAnyH_take (i := 5) (oi := ⟨some 84, _, _, _, _, _⟩) (v := ?_) rfl (by kernel_rfl) (by kernel_rfl) (by kernel_rfl) (fun _ _ _ h => h) (Or.inl ⟨by rfl, ?_⟩) (by assumption) ?_
          rotate_left
          · intro w hSw; (try dsimp only at hSw); go_simp <;> with_reducible rfl
          try simp only [Act.put, List.setIfInBounds_toArray, List.set_cons_zero, List.set_cons_succ]
          refine wpAnyH_take (i := 6) (oi := ⟨some 85, _, _, _, _, _⟩) (v := ?_) rfl (by kernel_rfl) (by kernel_rfl) (by kernel_rfl) (fun _ _ _ h => h) (Or.inl ⟨by rfl, ?_⟩) (by assumption) ?_
          rotate_left
          · intro w hSw; (try dsimp only at hSw); go_simp <;> with_reducible rfl
          try simp only [Act.put, List.setIfInBounds_toArray, List.set_cons_zero, List.set_cons_succ]
          refine wpAnyH_take (i := 7) (oi := ⟨some 86, _, _, _, _, _⟩) (v := ?_) rfl (by kernel_rfl) (by kernel_rfl) (by kernel_rfl) (fun _ _ _ h => h) (Or.inl ⟨by rfl, ?_⟩) (by assumption) ?_
          rotate_left
          · intro w hSw; (try dsimp only at hSw); go_simp <;> with_reducible rfl
          try simp only [Act.put, List.setIfInBounds_toArray, List.set_cons_zero, List.set_cons_succ]
          refine wpAnyH_take (i := 8) (oi := ⟨some 87, _, _, _, _, _⟩) (v := ?_) rfl (by kernel_rfl) (by kernel_rfl) (by kernel_rfl) (fun _ _ _ h => h) (Or.inl ⟨by rfl, ?_⟩) (by assumption) ?_
          rotate_left
          · intro w hSw; (try dsimp only at hSw); go_simp <;> with_reducible rfl
          try simp only [Act.put, List.setIfInBounds_toArray, List.set_cons_zero, List.set_cons_succ]
          refine wpAnyH_take (i := 10) (oi := ⟨some 89, _, _, _, _, _⟩) (v := ?_) rfl (by kernel_rfl) (by kernel_rfl) (by kernel_rfl) (fun _ _ _ h => h) (Or.inl ⟨by rfl, ?_⟩) (by assumption) ?_
          rotate_left
          · intro w hSw; (try dsimp only at hSw); go_simp <;> with_reducible rfl
          try simp only [Act.put, List.setIfInBounds_toArray, List.set_cons_zero, List.set_cons_succ]
          refine wpAnyH_ready (rs := [9, 11]) (by kernel_rfl) (by simp) ?_
          refine AllReadyH.cons (o := ⟨some 88, _, _, _, _, _⟩) rfl (fun K hK => ?_) ?_
          go_simp
          refine hK.out _ _ ?_ (fun hHeld => ?_)
          · (try dsimp only); (first | assumption | exact ⟨c2x, f3, c5, c6⟩ | exact HZ.1 | exact HZ.2.2 _ | (refine sees4f ?_ c2x c3 f3 c5 c6; (repeat (first | exact bnil _ | refine Below.drew ?_ | refine bnew ?_ _))))
          clear hK K
          try simp only [Act.put, List.setIfInBounds_toArray, List.set_cons_zero, List.set_cons_succ]
          refine wpAnyH_ready (rs := [11]) (by kernel_rfl) (by simp) ?_
          refine AllReadyH.cons (o := ⟨some 90, _, _, _, _, _⟩) rfl (fun K hK => ?_) AllReadyH.nil
          go_simp
          refine hK.out _ _ ?_ (fun hHeld => ?_)
          · (try dsimp only); (first | assumption | exact ⟨c2x, f3, c5, c6⟩ | exact HZ.1 | exact HZ.2.2 _ | (refine sees4f ?_ c2x c3 f3 c5 c6; (repeat (first | exact bnil _ | refine Below.drew ?_ | refine bnew ?_ _))))
          clear hK K
          try simp only [Act.put, List.setIfInBounds_toArray, List.set_cons_zero, List.set_cons_succ]
          refine wpAnyH_ready (rs := [12]) (by kernel_rfl) (by simp) ?_
          refine AllReadyH.cons (o := ⟨some 91, _, _, _, _, _⟩) rfl (fun K hK => ?_) AllReadyH.nil
          (refine step_appC elmCN gS_one rfl (.tmp 88) (.tmp 90) rfl (.slice Aj L cj) (((oths 100 kinds k) j).zip (av j)) rfl (HR.out.row _ (bnew (bnil _) _).drew) [((⟨0, [100 + (k : Int)]⟩ : VCall), (⟨(some ⟨ba, 0, none⟩), 1, 1⟩ : SV))] y HYE rfl (Sl.drew (Sl.fresh' _ #[_, _] 53 2 1 _ (by simp) rfl)) rfl (by rw [HYL.out]; simp only [maxLen]; omega) (by rw [HYL.out]; omega) (Nat.le_trans HR.out.size (bnew (bnil _) _).drew.size) ?_; intro E7 c7' w6 hc6 hc7 HN6 HG6 HO6; have HZ := HGW.out _ w6 (bnew (bnil _) _).drew HG6.out)
          refine hK.out _ _ ?_ (fun hHeld => ?_)
          · (try dsimp only); (first | assumption | exact ⟨c2x, f3, c5, c6⟩ | exact HZ.1 | exact HZ.2.2 _ | (refine sees4f ?_ c2x c3 f3 c5 c6; (repeat (first | exact bnil _ | refine Below.drew ?_ | refine bnew ?_ _))))
          clear hK K
          try simp only [Act.put, List.setIfInBounds_toArray, List.set_cons_zero, List.set_cons_succ]
          refine wpAnyH_take (i := 13) (oi := ⟨some 92, _, _, _, _, _⟩) (v := ?_) rfl (by kernel_rfl) (by kernel_rfl) (by kernel_rfl) (fun _ _ _ h => h) (Or.inl ⟨by rfl, ?_⟩) (by assumption) ?_
          rotate_left
          · intro w hSw; (try dsimp only at hSw); go_simp <;> with_reducible rfl
          try simp only [Act.put, List.setIfInBounds_toArray, List.set_cons_zero, List.set_cons_succ]
          refine wpAnyH_ready (rs := [14]) (by kernel_rfl) (by simp) ?_
          refine AllReadyH.cons (o := ⟨none, _, _, _, _, _⟩) rfl (fun K hK => ?_) AllReadyH.nil
          go_simp
          refine hK.out _ _ ?_ (fun hHeld => ?_)
          · (try dsimp only); (first | assumption | exact ⟨c2x, f3, c5, c6⟩ | exact HZ.1 | exact HZ.2.2 _ | (refine sees4f ?_ c2x c3 f3 c5 c6; (repeat (first | exact bnil _ | refine Below.drew ?_ | refine bnew ?_ _))))
          clear hK K
          try dsimp only [Act.put]
          refine wpAnyH_done (by kernel_rfl) ?_ _
          rotate_left
          refine AllReadyH.cons (o := ⟨some 90, _, _, _, _, _⟩) rfl (fun K hK => ?_) AllReadyH.nil
          go_simp
          refine hK.out _ _ ?_ (fun hHeld => ?_)
          · (try dsimp only); (first | assumption | exact ⟨c2x, f3, c5, c6⟩ | exact HZ.1 | exact HZ.2.2 _ | (refine sees4f ?_ c2x c3 f3 c5 c6; (repeat (first | exact bnil _ | refine Below.drew ?_ | refine bnew ?_ _))))
          clear hK K
          try simp only [Act.put, List.setIfInBounds_toArray, List.set_cons_zero, List.set_cons_succ]
          refine wpAnyH_ready (rs := [9]) (by kernel_rfl) (by simp) ?_
          refine AllReadyH.cons (o := ⟨some 88, _, _, _, _, _⟩) rfl (fun K hK => ?_) AllReadyH.nil
          go_simp
          refine hK.out _ _ ?_ (fun hHeld => ?_)
          · (try dsimp only); (first | assumption | exact ⟨c2x, f3, c5, c6⟩ | exact HZ.1 | exact HZ.2.2 _ | (refine sees4f ?_ c2x c3 f3 c5 c6; (repeat (first | exact bnil _ | refine Below.drew ?_ | refine bnew ?_ _))))
          clear hK K
          try simp only [Act.put, List.setIfInBounds_toArray, List.set_cons_zero, List.set_cons_succ]
          refine wpAnyH_ready (rs := [12]) (by kernel_rfl) (by simp) ?_
          refine AllReadyH.cons (o := ⟨some 91, _, _, _, _, _⟩) rfl (fun K hK => ?_) AllReadyH.nil
          (refine step_appC elmCN gS_one rfl (.tmp 88) (.tmp 90) rfl (.slice Aj L cj) (((oths 100 kinds k) j).zip (av j)) rfl (HR.out.row _ (bnew (bnil _) _).drew) [((⟨0, [100 + (k : Int)]⟩ : VCall), (⟨(some ⟨ba, 0, none⟩), 1, 1⟩ : SV))] y HYE rfl (Sl.drew (Sl.fresh' _ #[_, _] 53 2 1 _ (by simp) rfl)) rfl (by rw [HYL.out]; simp only [maxLen]; omega) (by rw [HYL.out]; omega) (Nat.le_trans HR.out.size (bnew (bnil _) _).drew.size) ?_; intro E7 c7' w6 hc6 hc7 HN6 HG6 HO6; have HZ := HGW.out _ w6 (bnew (bnil _) _).drew HG6.out)
          refine hK.out _ _ ?_ (fun hHeld => ?_)
          · (try dsimp only); (first | assumption | exact ⟨c2x, f3, c5, c6⟩ | exact HZ.1 | exact HZ.2.2 _ | (refine sees4f ?_ c2x c3 f3 c5 c6; (repeat (first | exact bnil _ | refine Below.drew ?_ | refine bnew ?_ _))))
          clear hK K
          try simp only [Act.put, List.setIfInBounds_toArray, List.set_cons_zero, List.set_cons_succ]
          refine wpAnyH_take (i := 13) (oi := ⟨some 92, _, _, _, _, _⟩) (v := ?_) rfl (by kernel_rfl) (by kernel_rfl) (by kernel_rfl) (fun _ _ _ h => h) (Or.inl ⟨by rfl, ?_⟩) (by assumption) ?_
          rotate_left
          · intro w hSw; (try dsimp only at hSw); go_simp <;> with_reducible rfl
          try simp only [Act.put, List.setIfInBounds_toArray, List.set_cons_zero, List.set_cons_succ]
          refine wpAnyH_ready (rs := [14]) (by kernel_rfl) (by simp) ?_
          refine AllReadyH.cons (o := ⟨none, _, _, _, _, _⟩) rfl (fun K hK => ?_) AllReadyH.nil
          go_simp
          refine hK.out _ _ ?_ (fun hHeld => ?_)
          · (try dsimp only); (first | assumption | exact ⟨c2x, f3, c5, c6⟩ | exact HZ.1 | exact HZ.2.2 _ | (refine sees4f ?_ c2x c3 f3 c5 c6; (repeat (first | exact bnil _ | refine Below.drew ?_ | refine bnew ?_ _))))
          clear hK K
          try dsimp only [Act.put]
          refine wpAnyH_done (by kernel_rfl) ?_ _
          rotate_left
          all_goals
            have HF := hid (HX5.out.app hj3 [⟨0, [100 + (k : Int)]⟩] [⟨(some ⟨ba, 0, none⟩), 1, 1⟩] (bnew (bnil _) _).drew rfl HFR.out HYE.out (by rw [HAJ.out]; exact HG6.out) (by rw [HAJ.out]; exact HO6.out) HN6.out)
            clear HZ HG6 HO6 HN6
            go_wp2
            go_roundw
            case rel => exact ⟨k + 1, _, _, by omega, by go_num, hid (by have h1 := HF.out; rw [← HCC.out, oths_upd _ _ HJ.out] at h1; exact h1)⟩
            case measure => simp [intOf]; omega
      · have i2 : ¬ (k : Int) < (r : Int) := by omega
        have HCC := hid (show ocall 100 kinds k = ⟨0, [100 + (k : Int)]⟩ by unfold ocall; rw [if_neg (by rw [hkb]; decide)]; simp)
        clear hkb
        go_upto_region 13 with fail
        have B5 := hid (bnew (bnew (bnil wr) (.cells #[.int .i64 (100 + (k : Int))] 3)) (.cells #[.int .i64 0, .slice (some ⟨ba, 0, none⟩) 1 1] 53))
        have XC := hid (blkN (wr.alloc (.cells #[.int .i64 (100 + (k : Int))] 3)) 53 #[.int .i64 0, .slice (some ⟨ba, 0, none⟩) 1 1] bc (by rw [World.size_alloc, HBA.out, HBC2.out]))
        have OA := hid (show ((wr.alloc (.cells #[.int .i64 (100 + (k : Int))] 3)).alloc (.cells #[.int .i64 0, .slice (some ⟨ba, 0, none⟩) 1 1] 53)).ownsRow w.heap.size 3 1 (.slice (some ⟨ba, 0, none⟩) 1 1) 1 ([100 + (k : Int)].flatMap gI) from own_below ⟨rfl, .inr ⟨ba, 1, #[.int .i64 (100 + (k : Int))], rfl, HBW.out, blkN wr _ _ ba HBA.out, Nat.le_refl _, by simp [maxLen], rfl, rfl⟩⟩ (bnew (bnil _) _))
        have hba := HBA.out
        rw [hba]
        try rw [HBC2.out]
        clear hba
        generalize World.alloc (World.alloc wr (.cells #[.int .i64 (100 + (k : Int))] 3)) (.cells #[.int .i64 0, .slice (some ⟨ba, 0, none⟩) 1 1] 53) = w5 at *
        have HX5 := hid (HX.out.step B5.out)
        obtain ⟨Aj, cj, hAj, HR0⟩ := HX5.out.row hj3
        have hL20 : ((oths 100 kinds k) j).length ≤ 19 := by rw [oths_len _ _ k j hj3]; omega
        obtain ⟨L, hL⟩ : ∃ L, ((oths 100 kinds k) j).length = L := ⟨_, rfl⟩
        rw [hL] at hAj HR0 hL20
        obtain ⟨y, hy⟩ : ∃ y, ((oths 100 kinds k) j).zip (av j) ++ [((⟨0, [100 + (k : Int)]⟩ : VCall), (⟨(some ⟨ba, 0, none⟩), 1, 1⟩ : SV))] = y := ⟨_, rfl⟩
        have HYE := hid hy
        have HYL := hid (show y.length = L + 1 by rw [← hy, List.length_append, HR0.len]; rfl)
        have HR := hid HR0
        have HAJ := hid hAj
        have c2x := HR.out.c2; have c3 := HR.out.c3; have f3 := HR.out.f3; have hcj := HR.out.hcj; have hcm := HR.out.hcm
        have c5 : w5.cell? ⟨bc, 0, none⟩ = some (.int .i64 0) := XC.out.cell 0
        have c6 : w5.cell? ⟨bc, 1, none⟩ = some (.slice (some ⟨ba, 0, none⟩) 1 1) := XC.out.cell 1
        unfold maxLen at hcm
        clear hy HR0 hAj hL
        have ltT := World.block_lt_of_cell? w5 _ c3
        have ltX := World.block_lt_of_cell? w5 _ c2x
        have ltC := World.block_lt_of_cell? w5 _ c5
        have hTbc : T ≠ bc := by have h1 := HX.out.mn.tb.lt; have h2 := HBC.out; omega
        have hXbc : X ≠ bc := by have h1 := HX.out.hx.lt; have h2 := HBC.out; omega
        have HAB := hid (show ∀ b, (Value.slice Aj L cj).ownBlock = some b → b ≠ bc from fun b hb => by
          have h1 := own_ge (HX.out.mn.rows j hj3).2.1 b (by rw [HAJ.out]; exact hb)
          have h2 := HBC.out
          omega)
        have HGW := hid (show ∀ wA w6, Below w5.heap.size w5 wA → wA.grownBy w6 (Value.slice Aj L cj).ownBlock → (w6.cell? ⟨X, 2, none⟩ = some (.slice (some ⟨T, 0, none⟩) 3 3) ∧ w6.frozen? ⟨T, j, none⟩ = false ∧ w6.cell? ⟨bc, 0, none⟩ = some (.int .i64 0) ∧ w6.cell? ⟨bc, 1, none⟩ = some (.slice (some ⟨ba, 0, none⟩) 1 1)) ∧ w6.cell? ⟨T, j, none⟩ = some (.slice Aj L cj) ∧
          ∀ v, ((w6.setCell ⟨T, j, none⟩ v).cell? ⟨X, 2, none⟩ = some (.slice (some ⟨T, 0, none⟩) 3 3) ∧ (w6.setCell ⟨T, j, none⟩ v).frozen? ⟨T, j, none⟩ = false ∧ (w6.setCell ⟨T, j, none⟩ v).cell? ⟨bc, 0, none⟩ = some (.int .i64 0) ∧ (w6.setCell ⟨T, j, none⟩ v).cell? ⟨bc, 1, none⟩ = some (.slice (some ⟨ba, 0, none⟩) 1 1)) from fun wA w6 hb hG => by
          have gC : Blk w6 bc 53 #[.int .i64 0, .slice (some ⟨ba, 0, none⟩) 1 1] := (Chg.of_grown hG (M := fun k => (Value.slice Aj L cj).ownBlock = some k) (fun k e => e)).blk (XC.out.below' hb) (fun e => HAB.out bc e rfl)
          have gC2 := fun v => gC.far (p := ⟨T, j, none⟩) (fun e => hTbc e.symm) v
          obtain ⟨⟨g1, g2⟩, g3, g4⟩ := HR.out.grow wA w6 hb hG
          exact ⟨⟨g1, g2, gC.cell 0, gC.cell 1⟩, g3, fun v => ⟨(g4 v).1, (g4 v).2, (gC2 v).cell 0, (gC2 v).cell 1⟩⟩)
        have HFR := hid (show ∀ (k' : Nat) (c : VCall) (a : SV), ([⟨0, [100 + (k : Int)]⟩] : List VCall)[k']? = some c → ([⟨(some ⟨ba, 0, none⟩), 1, 1⟩] : List SV)[k']? = some a → ((w5.alloc (.cells #[.int .i64 0, .slice (some ⟨ba, 0, none⟩) 1 1] 53))).drew.ownsRow w.heap.size 3 1 a.v c.args.length (c.args.flatMap gI) from fun k' c a hc ha => by
          rw [List.getElem?_singleton] at hc ha
          split at hc
          · rename_i h; rw [if_pos h] at ha
            injection hc with hc; injection ha with ha
            subst hc ha
            exact own_below OA.out (bnew (bnil _) _).drew
          · cases hc)
        refine wp_region_held_drew (S := (fun w' => w'.cell? ⟨X, 2, none⟩ = some (.slice (some ⟨T, 0, none⟩) 3 3) ∧ w'.frozen? ⟨T, j, none⟩ = false ∧ w'.cell? ⟨bc, 0, none⟩ = some (.int .i64 0) ∧ w'.cell? ⟨bc, 1, none⟩ = some (.slice (some ⟨ba, 0, none⟩) 1 1))) (by kernel_rfl) ?_ (fun hHeld => ?_)
        · (try dsimp only); (first | assumption | exact ⟨c2x, f3, c5, c6⟩ | exact HZ.1 | exact HZ.2.2 _ | (refine sees4f ?_ c2x c3 f3 c5 c6; (repeat (first | exact bnil _ | refine Below.drew ?_ | refine bnew ?_ _))))
        refine wpAnyH_take (i := 0) (oi := ⟨some 79, _, _, _, _, _⟩) (v := ?_) rfl (by kernel_rfl) (by kernel_rfl) (by kernel_rfl) (fun _ _ _ h => h) (Or.inl ⟨by rfl, ?_⟩) (by assumption) ?_
        rotate_left
        · intro w hSw; (try dsimp only at hSw); go_simp <;> with_reducible rfl
        try simp only [Act.put, List.setIfInBounds_toArray, List.set_cons_zero, List.set_cons_succ]
        refine wpAnyH_take (i := 1) (oi := ⟨some 80, _, _, _, _, _⟩) (v := ?_) rfl (by kernel_rfl) (by kernel_rfl) (by kernel_rfl) (fun _ _ _ h => h) (Or.inl ⟨by rfl, ?_⟩) (by assumption) ?_
        rotate_left
        · intro w hSw; (try dsimp only at hSw); go_simp <;> with_reducible rfl
        try simp only [Act.put, List.setIfInBounds_toArray, List.set_cons_zero, List.set_cons_succ]
        refine wpAnyH_take (i := 2) (oi := ⟨some 81, _, _, _, _, _⟩) (v := ?_) rfl (by kernel_rfl) (by kernel_rfl) (by kernel_rfl) (fun _ _ _ h => h) (Or.inl ⟨by rfl, ?_⟩) (by assumption) ?_
        rotate_left
        · intro w hSw; (try dsimp only at hSw); go_simp <;> with_reducible rfl
        try simp only [Act.put, List.setIfInBounds_toArray, List.set_cons_zero, List.set_cons_succ]
        refine wpAnyH_take (i := 3) (oi := ⟨some 82, _, _, _, _, _⟩) (v := ?_) rfl (by kernel_rfl) (by kernel_rfl) (by kernel_rfl) (fun _ _ _ h => h) (Or.inl ⟨by rfl, ?_⟩) (by assumption) ?_
        rotate_left
        · intro w hSw; (try dsimp only at hSw); go_simp <;> with_reducible rfl
        try simp only [Act.put, List.setIfInBounds_toArray, List.set_cons_zero, List.set_cons_succ]
        refine wpAnyH_take (i := 4) (oi := ⟨some 83, _, _, _, _, _⟩) (v := ?_) rfl (by kernel_rfl) (by kernel_rfl) (by kernel_rfl) (fun _ _ _ h => h) (Or.inl ⟨by rfl, ?_⟩) (by assumption) ?_
        rotate_left
        · intro w hSw; (try dsimp only at hSw); go_simp <;> with_reducible rfl
        try simp only [Act.put, List.setIfInBounds_toArray, List.set_cons_zero, List.set_cons_succ]
        refine wpAnyH_take (i := 5) (oi := ⟨some 84, _, _, _, _, _⟩) (v := ?_) rfl (by kernel_rfl) (by kernel_rfl) (by kernel_rfl) (fun _ _ _ h => h) (Or.inl ⟨by rfl, ?_⟩) (by assumption) ?_
        rotate_left
        · intro w hSw; (try dsimp only at hSw); go_simp <;> with_reducible rfl
        try simp only [Act.put, List.setIfInBounds_toArray, List.set_cons_zero, List.set_cons_succ]
        refine wpAnyH_take (i := 6) (oi := ⟨some 85, _, _, _, _, _⟩) (v := ?_) rfl (by kernel_rfl) (by kernel_rfl) (by kernel_rfl) (fun _ _ _ h => h) (Or.inl ⟨by rfl, ?_⟩) (by assumption) ?_
        rotate_left
        · intro w hSw; (try dsimp only at hSw); go_simp <;> with_reducible rfl
        try simp only [Act.put, List.setIfInBounds_toArray, List.set_cons_zero, List.set_cons_succ]
        refine wpAnyH_take (i := 7) (oi := ⟨some 86, _, _, _, _, _⟩) (v := ?_) rfl (by kernel_rfl) (by kernel_rfl) (by kernel_rfl) (fun _ _ _ h => h) (Or.inl ⟨by rfl, ?_⟩) (by assumption) ?_
        rotate_left
        · intro w hSw; (try dsimp only at hSw); go_simp <;> with_reducible rfl
        try simp only [Act.put, List.setIfInBounds_toArray, List.set_cons_zero, List.set_cons_succ]
        refine wpAnyH_take (i := 8) (oi := ⟨some 87, _, _, _, _, _⟩) (v := ?_) rfl (by kernel_rfl) (by kernel_rfl) (by kernel_rfl) (fun _ _ _ h => h) (Or.inl ⟨by rfl, ?_⟩) (by assumption) ?_
        rotate_left
        · intro w hSw; (try dsimp only at hSw); go_simp <;> with_reducible rfl
        try simp only [Act.put, List.setIfInBounds_toArray, List.set_cons_zero, List.set_cons_succ]
        refine wpAnyH_take (i := 10) (oi := ⟨some 89, _, _, _, _, _⟩) (v := ?_) rfl (by kernel_rfl) (by kernel_rfl) (by kernel_rfl) (fun _ _ _ h => h) (Or.inl ⟨by rfl, ?_⟩) (by assumption) ?_
        rotate_left
        · intro w hSw; (try dsimp only at hSw); go_simp <;> with_reducible rfl
        try simp only [Act.put, List.setIfInBounds_toArray, List.set_cons_zero, List.set_cons_succ]
        refine wpAnyH_ready (rs := [9, 11]) (by kernel_rfl) (by simp) ?_
        refine AllReadyH.cons (o := ⟨some 88, _, _, _, _, _⟩) rfl (fun K hK => ?_) ?_
        go_simp
        refine hK.out _ _ ?_ (fun hHeld => ?_)
        · (try dsimp only); (first | assumption | exact ⟨c2x, f3, c5, c6⟩ | exact HZ.1 | exact HZ.2.2 _ | (refine sees4f ?_ c2x c3 f3 c5 c6; (repeat (first | exact bnil _ | refine Below.drew ?_ | refine bnew ?_ _))))
        clear hK K
        try simp only [Act.put, List.setIfInBounds_toArray, List.set_cons_zero, List.set_cons_succ]
        refine wpAnyH_ready (rs := [11]) (by kernel_rfl) (by simp) ?_
        refine AllReadyH.cons (o := ⟨some 90, _, _, _, _, _⟩) rfl (fun K hK => ?_) AllReadyH.nil
        go_simp
        refine hK.out _ _ ?_ (fun hHeld => ?_)
        · (try dsimp only); (first | assumption | exact ⟨c2x, f3, c5, c6⟩ | exact HZ.1 | exact HZ.2.2 _ | (refine sees4f ?_ c2x c3 f3 c5 c6; (repeat (first | exact bnil _ | refine Below.drew ?_ | refine bnew ?_ _))))
        clear hK K
        try simp only [Act.put, List.setIfInBounds_toArray, List.set_cons_zero, List.set_cons_succ]
        refine wpAnyH_ready (rs := [12]) (by kernel_rfl) (by simp) ?_
        refine AllReadyH.cons (o := ⟨some 91, _, _, _, _, _⟩) rfl (fun K hK => ?_) AllReadyH.nil
        (refine step_appC elmCN gS_one rfl (.tmp 88) (.tmp 90) rfl (.slice Aj L cj) (((oths 100 kinds k) j).zip (av j)) rfl (HR.out.row _ (bnew (bnil _) _).drew) [((⟨0, [100 + (k : Int)]⟩ : VCall), (⟨(some ⟨ba, 0, none⟩), 1, 1⟩ : SV))] y HYE rfl (Sl.drew (Sl.fresh' _ #[_, _] 53 2 1 _ (by simp) rfl)) rfl (by rw [HYL.out]; simp only [maxLen]; omega) (by rw [HYL.out]; omega) (Nat.le_trans HR.out.size (bnew (bnil _) _).drew.size) ?_; intro E7 c7' w6 hc6 hc7 HN6 HG6 HO6; have HZ := HGW.out _ w6 (bnew (bnil _) _).drew HG6.out)
        refine hK.out _ _ ?_ (fun hHeld => ?_)
        · (try dsimp only); (first | assumption | exact ⟨c2x, f3, c5, c6⟩ | exact HZ.1 | exact HZ.2.2 _ | (refine sees4f ?_ c2x c3 f3 c5 c6; (repeat (first | exact bnil _ | refine Below.drew ?_ | refine bnew ?_ _))))
        clear hK K
        try simp only [Act.put, List.setIfInBounds_toArray, List.set_cons_zero, List.set_cons_succ]
        refine wpAnyH_take (i := 13) (oi := ⟨some 92, _, _, _, _, _⟩) (v := ?_) rfl (by kernel_rfl) (by kernel_rfl) (by kernel_rfl) (fun _ _ _ h => h) (Or.inl ⟨by rfl, ?_⟩) (by assumption) ?_
        rotate_left
        · intro w hSw; (try dsimp only at hSw); go_simp <;> with_reducible rfl
        try simp only [Act.put, List.setIfInBounds_toArray, List.set_cons_zero, List.set_cons_succ]
        refine wpAnyH_ready (rs := [14]) (by kernel_rfl) (by simp) ?_
        refine AllReadyH.cons (o := ⟨none, _, _, _, _, _⟩) rfl (fun K hK => ?_) AllReadyH.nil
        go_simp
        refine hK.out _ _ ?_ (fun hHeld => ?_)
        · (try dsimp only); (first | assumption | exact ⟨c2x, f3, c5, c6⟩ | exact HZ.1 | exact HZ.2.2 _ | (refine sees4f ?_ c2x c3 f3 c5 c6; (repeat (first | exact bnil _ | refine Below.drew ?_ | refine bnew ?_ _))))
        clear hK K
        try dsimp only [Act.put]
        refine wpAnyH_done (by kernel_rfl) ?_ _
        rotate_left
        refine AllReadyH.cons (o := ⟨some 90, _, _, _, _, _⟩) rfl (fun K hK => ?_) AllReadyH.nil
        go_simp
        refine hK.out _ _ ?_ (fun hHeld => ?_)
        · (try dsimp only); (first | assumption | exact ⟨c2x, f3, c5, c6⟩ | exact HZ.1 | exact HZ.2.2 _ | (refine sees4f ?_ c2x c3 f3 c5 c6; (repeat (first | exact bnil _ | refine Below.drew ?_ | refine bnew ?_ _))))
        clear hK K
        try simp only [Act.put, List.setIfInBounds_toArray, List.set_cons_zero, List.set_cons_succ]
        refine wpAnyH_ready (rs := [9]) (by kernel_rfl) (by simp) ?_
        refine AllReadyH.cons (o := ⟨some 88, _, _, _, _, _⟩) rfl (fun K hK => ?_) AllReadyH.nil
        go_simp
        refine hK.out _ _ ?_ (fun hHeld => ?_)
        · (try dsimp only); (first | assumption | exact ⟨c2x, f3, c5, c6⟩ | exact HZ.1 | exact HZ.2.2 _ | (refine sees4f ?_ c2x c3 f3 c5 c6; (repeat (first | exact bnil _ | refine Below.drew ?_ | refine bnew ?_ _))))
        clear hK K
        try simp only [Act.put, List.setIfInBounds_toArray, List.set_cons_zero, List.set_cons_succ]
        refine wpAnyH_ready (rs := [12]) (by kernel_rfl) (by simp) ?_
        refine AllReadyH.cons (o := ⟨some 91, _, _, _, _, _⟩) rfl (fun K hK => ?_) AllReadyH.nil
        (refine step_appC elmCN gS_one rfl (.tmp 88) (.tmp 90) rfl (.slice Aj L cj) (((oths 100 kinds k) j).zip (av j)) rfl (HR.out.row _ (bnew (bnil _) _).drew) [((⟨0, [100 + (k : Int)]⟩ : VCall), (⟨(some ⟨ba, 0, none⟩), 1, 1⟩ : SV))] y HYE rfl (Sl.drew (Sl.fresh' _ #[_, _] 53 2 1 _ (by simp) rfl)) rfl (by rw [HYL.out]; simp only [maxLen]; omega) (by rw [HYL.out]; omega) (Nat.le_trans HR.out.size (bnew (bnil _) _).drew.size) ?_; intro E7 c7' w6 hc6 hc7 HN6 HG6 HO6; have HZ := HGW.out _ w6 (bnew (bnil _) _).drew HG6.out)
        refine hK.out _ _ ?_ (fun hHeld => ?_)
        · (try dsimp only); (first | assumption | exact ⟨c2x, f3, c5, c6⟩ | exact HZ.1 | exact HZ.2.2 _ | (refine sees4f ?_ c2x c3 f3 c5 c6; (repeat (first | exact bnil _ | refine Below.drew ?_ | refine bnew ?_ _))))
        clear hK K
        try simp only [Act.put, List.setIfInBounds_toArray, List.set_cons_zero, List.set_cons_succ]
        refine wpAnyH_take (i := 13) (oi := ⟨some 92, _, _, _, _, _⟩) (v := ?_) rfl (by kernel_rfl) (by kernel_rfl) (by kernel_rfl) (fun _ _ _ h => h) (Or.inl ⟨by rfl, ?_⟩) (by assumption) ?_
        rotate_left
        · intro w hSw; (try dsimp only at hSw); go_simp <;> with_reducible rfl
        try simp only [Act.put, List.setIfInBounds_toArray, List.set_cons_zero, List.set_cons_succ]
        refine wpAnyH_ready (rs := [14]) (by kernel_rfl) (by simp) ?_
        refine AllReadyH.cons (o := ⟨none, _, _, _, _, _⟩) rfl (fun K hK => ?_) AllReadyH.nil
        go_simp
        refine hK.out _ _ ?_ (fun hHeld => ?_)
        · (try dsimp only); (first | assumption | exact ⟨c2x, f3, c5, c6⟩ | exact HZ.1 | exact HZ.2.2 _ | (refine sees4f ?_ c2x c3 f3 c5 c6; (repeat (first | exact bnil _ | refine Below.drew ?_ | refine bnew ?_ _))))
        clear hK K
        try dsimp only [Act.put]
        refine wpAnyH_done (by kernel_rfl) ?_ _
        rotate_left
        all_goals
          have HF := hid (HX5.out.app hj3 [⟨0, [100 + (k : Int)]⟩] [⟨(some ⟨ba, 0, none⟩), 1, 1⟩] (bnew (bnil _) _).drew rfl HFR.out HYE.out (by rw [HAJ.out]; exact HG6.out) (by rw [HAJ.out]; exact HO6.out) HN6.out)
          clear HZ HG6 HO6 HN6
          go_wp2
          go_roundw
          case rel => exact ⟨k + 1, _, _, by omega, by go_num, hid (by have h1 := HF.out; rw [← HCC.out, oths_upd _ _ HJ.out] at h1; exact h1)⟩
          case measure => simp [intOf]; omega
    · obtain rfl : k = calls := by omega
      have i1 : ¬ (k : Int) < (k : Int) := by omega
      have HTR := hid (HT.out.below HX.out.below)
      have HMA := hid (omach_at (ws := (swords N)) HX.out.mn (Nat.le_of_ble_eq_true rfl) (Nat.le_of_ble_eq_true rfl) spush_sh spop_sh hcl)
      have y0 : wr.cell? ⟨X, 0, none⟩ = some (.slice AW (2 * N + 2) cW) := HX.out.hx.cell 0
      have y1 : wr.cell? ⟨X, 1, none⟩ = some (.slice (some ⟨Cb, 0, none⟩) 2 2) := HX.out.hx.cell 1
      have y2 : wr.cell? ⟨X, 2, none⟩ = some (.slice (some ⟨T, 0, none⟩) 3 3) := HX.out.hx.cell 2
      have z0 := HX.out.hr.frozen 0
      have z1 := HX.out.hr.frozen 1
      have z2 := HX.out.hr.frozen 2
      have z3 : wr.cell? ⟨w.heap.size, 0, none⟩ = some (.slice none 0 0) := HX.out.hr.cell 0
      have z4 : wr.cell? ⟨w.heap.size, 1, none⟩ = some (.slice none 0 0) := HX.out.hr.cell 1
      have z5 : wr.cell? ⟨w.heap.size, 2, none⟩ = some (.slice none 0 0) := HX.out.hr.cell 2
      go_upto_region 14 with fail
      refine wp_region_held_drew (S := (fun w' => w'.cell? ⟨X, 0, none⟩ = some (.slice AW (2 * N + 2) cW) ∧ w'.cell? ⟨X, 1, none⟩ = some (.slice (some ⟨Cb, 0, none⟩) 2 2) ∧ w'.cell? ⟨X, 2, none⟩ = some (.slice (some ⟨T, 0, none⟩) 3 3) ∧ w'.frozen? ⟨w.heap.size, 0, none⟩ = false ∧ w'.frozen? ⟨w.heap.size, 1, none⟩ = false ∧ w'.frozen? ⟨w.heap.size, 2, none⟩ = false)) (by kernel_rfl) ?_ (fun hHeld => ?_)
      · (try dsimp only); (first | assumption | exact ⟨y0, y1, y2, z0, z1, z2⟩ | exact ⟨y0', y1', y2', z0', z1', z2'⟩ | exact keep16s hXR y0' y1' y2' z0' z1' z2' _ _ _)
      refine wpAnyH_take (i := 0) (oi := ⟨some 93, _, _, _, _, _⟩) (v := ?_) rfl (by kernel_rfl) (by kernel_rfl) (by kernel_rfl) (fun _ _ _ h => h) (Or.inl ⟨by rfl, ?_⟩) (by assumption) ?_
      rotate_left
      · intro w hSw; (try dsimp only at hSw); go_simp <;> with_reducible rfl
      try simp only [Act.put, List.setIfInBounds_toArray, List.set_cons_zero, List.set_cons_succ]
      refine wpAnyH_take (i := 1) (oi := ⟨some 94, _, _, _, _, _⟩) (v := ?_) rfl (by kernel_rfl) (by kernel_rfl) (by kernel_rfl) (fun _ _ _ h => h) (Or.inl ⟨by rfl, ?_⟩) (by assumption) ?_
      rotate_left
      · intro w hSw; (try dsimp only at hSw); go_simp <;> with_reducible rfl
      try simp only [Act.put, List.setIfInBounds_toArray, List.set_cons_zero, List.set_cons_succ]
      refine wpAnyH_ready (rs := [2]) (by kernel_rfl) (by simp) ?_
      refine AllReadyH.cons (o := ⟨some 95, _, _, _, _, _⟩) rfl (fun K hK => ?_) AllReadyH.nil
      go_simp
      refine (run_may AW (some ⟨Cb, 0, none⟩) (some ⟨T, 0, none⟩) (2 * N + 2) cW 2 2 3 3 _ _ (by omega) (by decide) (by decide) (HTR.out.below (bnil _).drew) (HMA.out.below (bnil _).drew)).mono ?_; rintro e w4 ⟨rfl, b4⟩; have b4 := bgo (bnil wr).drew b4; obtain ⟨y0', y1', y2', z0', z1', z2', z3', z4', z5'⟩ := keep16 b4 y0 y1 y2 z0 z1 z2 z3 z4 z5; clear y0 y1 y2 z0 z1 z2 z3 z4 z5
      go_wp2_with fail
      refine hK.out _ _ ?_ (fun hHeld => ?_)
      · (try dsimp only); (first | assumption | exact ⟨y0, y1, y2, z0, z1, z2⟩ | exact ⟨y0', y1', y2', z0', z1', z2'⟩ | exact keep16s hXR y0' y1' y2' z0' z1' z2' _ _ _)
      clear hK K
      try simp only [Act.put, List.setIfInBounds_toArray, List.set_cons_zero, List.set_cons_succ]
      refine wpAnyH_ready (rs := [3]) (by kernel_rfl) (by simp) ?_
      refine AllReadyH.cons (o := ⟨none, _, _, _, _, _⟩) rfl (fun K hK => ?_) AllReadyH.nil
      go_simp
      refine hK.out _ _ ?_ (fun hHeld => ?_)
      · (try dsimp only); (first | assumption | exact ⟨y0, y1, y2, z0, z1, z2⟩ | exact ⟨y0', y1', y2', z0', z1', z2'⟩ | exact keep16s hXR y0' y1' y2' z0' z1' z2' _ _ _)
      clear hK K
      try dsimp only [Act.put]
      refine wpAnyH_take (i := 4) (oi := ⟨some 7, _, _, _, _, _⟩) (v := ?_) rfl (by kernel_rfl) (by kernel_rfl) (by kernel_rfl) (fun _ _ _ h => h) (Or.inl ⟨by rfl, ?_⟩) (by assumption) ?_
      rotate_left
      · intro w hSw; (try dsimp only at hSw); go_simp <;> with_reducible rfl
      try simp only [Act.put, List.setIfInBounds_toArray, List.set_cons_zero, List.set_cons_succ]
      refine wpAnyH_done (by kernel_rfl) ?_ _
      rotate_left
      go_wp2_with fail
      have HXZ := hid (HX.out.step b4)
      obtain ⟨q0, q1, q2⟩ := set3N HXZ.out.hr (.slice AW (2 * N + 2) cW) (.slice (some ⟨Cb, 0, none⟩) 2 2) (.slice (some ⟨T, 0, none⟩) 3 3)
      refine bodyPost_ret (v := .tuple #[.agg #[.slice AW (2 * N + 2) cW, .slice (some ⟨Cb, 0, none⟩) 2 2, .slice (some ⟨T, 0, none⟩) 3 3], .bool true]) (by simp [results, Tryd.results35, go_sem, q0, q1, q2]) rfl ?_
      exact ⟨AW, cW, Cb, T, _, tv, av, rfl, by have h := own_res HXZ.out.own HXZ.out.hr (by decide) (.slice AW (2 * N + 2) cW) (.slice (some ⟨Cb, 0, none⟩) 2 2) (.slice (some ⟨T, 0, none⟩) 3 3); rw [HWL.out] at h; exact h, HXZ.out.mn.res HXZ.out.hr _ _ _, ((HXZ.out.below.setCell (p := ⟨w.heap.size, 0, none⟩) (Nat.le_refl _) _).setCell (p := ⟨w.heap.size, 1, none⟩) (Nat.le_refl _) _).setCell (p := ⟨w.heap.size, 2, none⟩) (Nat.le_refl _) _⟩
end Go.Proofs.YtiinnkdhccgelaaDoor
