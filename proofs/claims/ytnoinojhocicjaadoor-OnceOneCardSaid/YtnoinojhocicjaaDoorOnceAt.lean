/-
  Package once's machine, as run.Play sees it.
-/
import Derived.Test.YtnoinojhocicjaaDoorOnceMach
import Derived.Test.YtnoinojhocicjaaDoorOnceLaw
import Derived.Test.YtnoinojhocicjaaDoorSched
import Derived.Test.YtnoinojhocicjaaDoorDsAt
namespace Go.Proofs.YtnoinojhocicjaaDoor
open Go.RowKit
set_option linter.unusedVariables false

theorem once_sh : ∀ o ∈ onceCode, OpSh 3 o := by
  intro o ho
  simp only [onceCode, List.mem_cons, List.not_mem_nil, or_false] at ho
  rcases ho with rfl | rfl | rfl
  · exact ⟨by decide, by decide, by decide, by decide, by decide⟩
  · exact ⟨by decide, by decide, by decide, by decide, by decide⟩
  · exact ⟨by decide, by decide, by decide, by decide, by decide⟩
/-- the machine, as run.Play sees it -/
theorem once_at {w : World} {B Cb T : Nat} {cv tv : Nat → Value} {av : Nat → List SV} (h : MN B w 1 4 Cb T cv (fun i => [onceCode].getD i []) tv (onceThs 4 0) av) : MachAt w (some ⟨Cb, 0, none⟩) 1 (some ⟨T, 0, none⟩) 4 onceMach := by
  refine h.at_ rfl rfl (fun i hi => ?_) (fun j hj => ?_)
  · obtain rfl : i = 0 := by omega
    exact ⟨by decide, once_sh⟩
  · have e : onceThs 4 0 j = List.replicate 4 ⟨0, []⟩ := by unfold onceThs onceN; rw [if_pos hj]
    rw [e]
    refine ⟨by decide, fun c hc => ?_⟩
    rw [(List.mem_replicate.1 hc).2]
    exact ⟨by decide, by decide⟩
/-- the first code's place -/
theorem once_code {w : World} {B Cb T : Nat} {cv tv : Nat → Value} {av : Nat → List SV} (h : MN B w 1 4 Cb T cv (fun i => [onceCode].getD i []) tv (onceThs 4 0) av) : ∃ A c, w.cell? ⟨Cb, 0, none⟩ = some (.slice A 3 c) := by
  have h2 := h.os 0 (by decide)
  obtain ⟨A, c, e, _⟩ := own_form h2
  exact ⟨A, c, by rw [h.cb.cell 0, arrN_at cv (by decide : 0 < 1), e]; rfl⟩
end Go.Proofs.YtnoinojhocicjaaDoor
