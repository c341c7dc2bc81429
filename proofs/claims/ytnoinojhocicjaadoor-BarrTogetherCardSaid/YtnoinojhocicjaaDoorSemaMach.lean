/-
  barographkeep.semaMachine: its walk.
-/
import Derived.Test.YtnoinojhocicjaaDoorRounds
import Derived.Test.YtnoinojhocicjaaDoorCodes2
namespace Go.Proofs.YtnoinojhocicjaaDoor
open Go.RowKit
set_option linter.unusedVariables false

theorem enter_sh : ∀ o ∈ enterCode, OpSh enterCode.length o := by
  intro o ho
  simp only [enterCode, List.mem_cons, List.not_mem_nil, or_false] at ho
  rcases ho with rfl | rfl | rfl | rfl | rfl | rfl <;> exact ⟨by decide, by decide, by decide, by decide, by decide⟩
theorem leave_sh : ∀ o ∈ leaveCode, OpSh leaveCode.length o := by
  intro o ho
  simp only [leaveCode, List.mem_cons, List.not_mem_nil, or_false] at ho
  rcases ho with rfl | rfl | rfl | rfl | rfl <;> exact ⟨by decide, by decide, by decide, by decide, by decide⟩
/-- what a maker of rounds gives -/
def RMachPost (w : World) (ws : List Int) (k1 k2 : List Op5) (often work : Nat) (e : Ending) (w' : World) : Prop :=
  ∃ (AW : Option Addr) (cW Cb T : Nat) (cv tv : Nat → Value) (av : Nat → List SV), e = .returned (.tuple #[.agg #[.slice AW ws.length cW, .slice (some ⟨Cb, 0, none⟩) 3 3, .slice (some ⟨T, 0, none⟩) 4 4], .bool true]) ∧
    w'.ownsRow w.heap.size 3 1 (.slice AW ws.length cW) ws.length (ws.flatMap gI) ∧ MN w.heap.size w' 3 4 Cb T cv (fun i => [k1, k2, lops work work].getD i []) tv (rths often work 4 0) av ∧ Below w.heap.size w w'
set_option maxHeartbeats 4000000 in
theorem sema_machine (room often work : Nat) (w : World) (h1 : 1 ≤ room) (h4 : room ≤ 4) (hw : work ≤ 40) (ho : often ≤ 6) (hT : STab w) :
    Calls Tryd.prog 31 #[.int .i64 (room : Int), .int .i64 (often : Int), .int .i64 (work : Int)] w fun e w' => RMachPost w [(room : Int)] enterCode leaveCode often work e w' := by
  have HT := hid hT
  clear hT
  go_enter Tryd.func31, Tryd.ntmps31
  go_wp2_with fail
  have HG := hid (Blk.new w 27 #[.slice none 0 0, .slice none 0 0, .slice none 0 0])
  have B0 := hid (bnew (bnil w) (.cells #[.slice none 0 0, .slice none 0 0, .slice none 0 0] 27))
  generalize World.alloc w (.cells #[.slice none 0 0, .slice none 0 0, .slice none 0 0] 27) = w0 at *
  refine (sema_words room w0 h1 h4).mono ?_
  rintro e w1 ⟨v1, rfl, o1⟩
  obtain ⟨AW, cW, rfl, hcW, hcW2⟩ := o1.form
  have O1 := hid o1
  clear o1
  go_wp2_with fail
  refine (sema_enter room w1 h1 h4).mono ?_
  rintro e w2 ⟨v2, rfl, o2⟩
  obtain ⟨A1, c1, rfl, hc1, hc12⟩ := o2.form
  have O2 := hid o2
  clear o2
  go_wp2_with fail
  refine (sema_leave room w2 h1 h4).mono ?_
  rintro e w3 ⟨v3, rfl, o3⟩
  obtain ⟨A2, c2, rfl, hc2, hc22⟩ := o3.form
  have O3 := hid o3
  clear o3
  have B3 := hid (bgo (bgo (bgo B0.out O1.out.below) O2.out.below) O3.out.below)
  have B13 := hid (bgo (bgo O1.out.below O2.out.below) O3.out.below)
  go_wp2_with fail
  refine (rounds_of w w.heap.size nil3 AW A1 A2 1 cW 6 c1 5 c2 [(room : Int)] enterCode leaveCode often work w3 B3.out (HG.out.below' B13.out) ?_ rfl (by decide) ?_ ?_ rfl rfl (by decide) (by decide) (by decide) (by decide) enter_sh leave_sh hw ho HT.out).mono ?_
  · exact own_below (own_below (own_lower O1.out.own B0.out.size) O2.out.below) O3.out.below
  · exact own_below (own_lower O2.out.own (bgo B0.out O1.out.below).size) O3.out.below
  · exact own_lower O3.out.own (bgo (bgo B0.out O1.out.below) O2.out.below).size
  rintro e w4 ⟨Cb, T, cv, tv, av, rfl, hE⟩
  have HE := hid hE
  clear hE
  have HA := hid (HE.out.step (bnew (bnil w4) (.cells #[.slice AW 1 cW, .slice (some ⟨Cb, 0, none⟩) 3 3, .slice (some ⟨T, 0, none⟩) 4 4] 27)))
  have HX := hid (Blk.new w4 27 #[.slice AW 1 cW, .slice (some ⟨Cb, 0, none⟩) 3 3, .slice (some ⟨T, 0, none⟩) 4 4])
  obtain ⟨Y, hY⟩ : ∃ Y, w4.heap.size = Y := ⟨_, rfl⟩
  have hne : Y ≠ w.heap.size := by have := HE.out.hg.lt; omega
  go_upto_region 5 with fail
  rw [hY] at HX
  clear hY
  generalize World.alloc w4 (.cells #[.slice AW 1 cW, .slice (some ⟨Cb, 0, none⟩) 3 3, .slice (some ⟨T, 0, none⟩) 4 4] 27) = wA at *
  have hz0 := HA.out.hg.frozen 0
  have hz1 := HA.out.hg.frozen 1
  have hz2 := HA.out.hg.frozen 2
  have hy0 := HA.out.hg.cell 0
  have hy1 := HA.out.hg.cell 1
  have hy2 := HA.out.hg.cell 2
  have hx0 := HX.out.cell 0
  have hx1 := HX.out.cell 1
  have hx2 := HX.out.cell 2
  go_wp2_with fail
  obtain ⟨q0, q1, q2⟩ := set3N HA.out.hg (.slice AW 1 cW) (.slice (some ⟨Cb, 0, none⟩) 3 3) (.slice (some ⟨T, 0, none⟩) 4 4)
  refine bodyPost_ret (v := .tuple #[.agg #[.slice AW 1 cW, .slice (some ⟨Cb, 0, none⟩) 3 3, .slice (some ⟨T, 0, none⟩) 4 4], .bool true]) (by simp [results, Tryd.results31, go_sem, q0, q1, q2]) rfl ?_
  exact ⟨AW, cW, Cb, T, cv, tv, av, rfl, own_res HA.out.own HA.out.hg (by decide) _ _ _, HA.out.mn.res HA.out.hg _ _ _, ((HA.out.below.setCell (p := ⟨w.heap.size, 0, none⟩) (Nat.le_refl _) _).setCell (p := ⟨w.heap.size, 1, none⟩) (Nat.le_refl _) _).setCell (p := ⟨w.heap.size, 2, none⟩) (Nat.le_refl _) _⟩
end Go.Proofs.YtnoinojhocicjaaDoor
