/-
  vmSure: its walk.
-/
import Derived.Test.YtljdnbdmfhcmpaaDoorVmRun
namespace Go.Proofs.YtljdnbdmfhcmpaaDoor
open Go.RowKit
set_option linter.unusedVariables false

def sureCode : List Op5 := [⟨13, 1, 0, 1, 0⟩, ⟨16, 1, 0, 0, 0⟩, ⟨14, 0, 2, 0, 0⟩]
theorem sure_run : (vres sureCode [1] [7, 8, 9] 9).1.told = [9] ∧ (vres sureCode [1] [7, 8, 9] 9).2 = [1, 8, 9] ∧ verr (vres sureCode [1] [7, 8, 9] 9).1 = 0 ∧ vcount sureCode 9 (vbegin sureCode.length [1], [7, 8, 9]) = 3 := by
  refine ⟨by decide +kernel, by decide +kernel, by decide +kernel, by decide +kernel⟩
theorem sure_ok : ∀ o ∈ sureCode, OpSh 3 o := by
  intro o ho
  simp only [sureCode, List.mem_cons, List.not_mem_nil, or_false] at ho
  rcases ho with rfl | rfl | rfl
  · exact ⟨by decide, by decide, by decide, by decide, by decide⟩
  · exact ⟨by decide, by decide, by decide, by decide, by decide⟩
  · exact ⟨by decide, by decide, by decide, by decide, by decide⟩
set_option maxHeartbeats 1000000 in
theorem vm_sure (w : World) (hT : STab w) : Calls Tryd.prog 14 #[] w fun e w' => e = .returned (.bool true) ∧ Below w.heap.size w w' := by
  have HT := hid hT; clear hT
  go_enter Tryd.func14, Tryd.ntmps14
  go_wp2_with fail
  have e1 : w.heap.size + 1 + 1 = ((w.alloc (.cells #[.int .i64 13, .int .i64 1, .int .i64 0, .int .i64 1, .int .i64 0, .int .i64 16, .int .i64 1, .int .i64 0, .int .i64 0, .int .i64 0, .int .i64 14, .int .i64 0, .int .i64 2, .int .i64 0, .int .i64 0] 35)).alloc (.cells #[.int .i64 1] 3)).heap.size := by simp
  have e2 : w.heap.size + 1 = (w.alloc (.cells #[.int .i64 13, .int .i64 1, .int .i64 0, .int .i64 1, .int .i64 0, .int .i64 16, .int .i64 1, .int .i64 0, .int .i64 0, .int .i64 0, .int .i64 14, .int .i64 0, .int .i64 2, .int .i64 0, .int .i64 0] 35)).heap.size := by simp
  have s1 := Sl.fresh w #[.int .i64 13, .int .i64 1, .int .i64 0, .int .i64 1, .int .i64 0, .int .i64 16, .int .i64 1, .int .i64 0, .int .i64 0, .int .i64 0, .int .i64 14, .int .i64 0, .int .i64 2, .int .i64 0, .int .i64 0] 35 5 3 rfl
  have s2 := Sl.fresh' _ #[.int .i64 1] 3 1 1 _ e2.symm rfl
  have s3 := Sl.fresh' _ #[.int .i64 7, .int .i64 8, .int .i64 9] 3 1 3 _ e1.symm rfl
  have b3 := bnew (bnew (bnew (bnil w) (.cells #[.int .i64 13, .int .i64 1, .int .i64 0, .int .i64 1, .int .i64 0, .int .i64 16, .int .i64 1, .int .i64 0, .int .i64 0, .int .i64 0, .int .i64 14, .int .i64 0, .int .i64 2, .int .i64 0, .int .i64 0] 35)) (.cells #[.int .i64 1] 3)) (.cells #[.int .i64 7, .int .i64 8, .int .i64 9] 3)
  have s1' := (s1.below (bnew (bnil _) (.cells #[.int .i64 1] 3))).below (bnew (bnil _) (.cells #[.int .i64 7, .int .i64 8, .int .i64 9] 3))
  have s2' := s2.below (bnew (bnil _) (.cells #[.int .i64 7, .int .i64 8, .int .i64 9] 3))
  clear e1 e2 s1 s2
  refine (vm_run _ _ _ 3 3 1 1 3 3 9 sureCode [1] [7, 8, 9] _ (by decide) (by decide) (by decide) (by decide) (HT.out.below b3) sure_ok s1' s2' s3).mono ?_
  have B3 := hid b3
  clear s1' s2' s3 b3
  generalize World.alloc (World.alloc (World.alloc w _) _) _ = w3 at *
  rintro e w4 ⟨tv, wv, rfl, ho1, ho2⟩
  obtain ⟨r1, r2, r3, r4⟩ := sure_run
  rw [r1] at ho1
  rw [r2] at ho2
  rw [r3, r4]
  clear r1 r2 r3 r4
  obtain ⟨A1, c1, rfl, _, _⟩ := ho1.form
  obtain ⟨A2, c2, rfl, _, _⟩ := ho2.form
  have O1 := hid ho1; have O2 := hid ho2
  clear ho1 ho2
  have f3 : (((3 : Nat) : Int) == 3) = true := rfl
  go_wp2_with fail
  refine (same_ints A1 _ 1 c1 1 [9] _ (by decide) (O1.out.sl.below (bnew (bnil _) _)) (Sl.fresh w4 #[.int .i64 9] 3 1 1 rfl)).mono ?_
  rintro e w5 ⟨rfl, hb5⟩
  have B5 := hid (bgo (bnew (bnil w4) _) hb5)
  clear hb5
  go_wp2_with fail
  refine (same_ints A2 _ 3 c2 3 [1, 8, 9] _ (by decide) ((O2.out.sl.below B5.out).below (bnew (bnil _) _)) (Sl.fresh w5 #[.int .i64 1, .int .i64 8, .int .i64 9] 3 1 3 rfl)).mono ?_
  rintro e w6 ⟨rfl, hb6⟩
  go_wp2
  go_ret
  exact ⟨rfl, bgo B3.out (bgo O1.out.below (bgo B5.out (bgo (bnew (bnil w5) _) hb6)))⟩
end Go.Proofs.YtljdnbdmfhcmpaaDoor
