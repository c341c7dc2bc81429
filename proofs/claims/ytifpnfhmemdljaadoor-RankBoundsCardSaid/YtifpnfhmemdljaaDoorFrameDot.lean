/-
  The reading of a []Dot as triples.
-/
import Derived.Test.YtifpnfhmemdljaaDoorFrame
import Derived.Test.YtifpnfhmemdljaaDoorSamp
import Derived.Deep.Strs
namespace Go.Proofs.YtifpnfhmemdljaaDoor
open Go.RowKit Go.ChangeShapes Go.WideShapes Go.Deep
set_option linter.unusedVariables false
theorem list3 {α : Type} (l : List α) (h : l.length = 3) : ∃ a b c, l = [a, b, c] := by
  rcases l with _ | ⟨a, _ | ⟨b, _ | ⟨c, _ | ⟨d, l⟩⟩⟩⟩
  · simp at h
  · simp at h
  · simp at h
  · exact ⟨a, b, c, rfl⟩
  · simp at h
theorem dotOk_of {z0 z1 : Int} {z2 : Bool} (h0 : -9223372036854775808 ≤ z0 ∧ z0 ≤ 9223372036854775807) (h1 : -9223372036854775808 ≤ z1 ∧ z1 ≤ 9223372036854775807) : DotOk (z0, z1, z2) := ⟨h0.1, h0.2, h1.1, h1.2⟩
set_option maxRecDepth 100000 in
theorem rd_dots {H : Type} {enc : TypeId × Value → H} {W : World} {A : Option Addr} {len cap : Nat} {d : DataW H} {p : List MemPlace}
    (h : DataW.Trod enc Tryd.prog W 0 (fun _ => true) true 22 (.slice A len cap) d p) :
    len ≤ cap ∧ cap ≤ maxLen ∧ ((∀ n ∈ d.weights Tryd.prog 22, n ≤ reachBytes) → cap * Tryd.prog.bytesOf 39 ≤ reachBytes) ∧ ∃ l : List (Int × Int × Bool), Sl W 3 A len (l.flatMap gD) ∧ ∀ x ∈ l, DotOk x := by
  obtain ⟨h1, h2, h3, l, hl, hs, hp⟩ := rd_slice gD DotOk 3 Tryd.underlying22 (by kernel_rfl) (by decide) (fun _ => rfl) (fun n cs y hy hcs => by
    obtain ⟨u0, u1, u2, n0, hx, hl0, g0, g1, g2⟩ := trod_struct3 Tryd.underlying39 hy
    obtain ⟨c0, c1, c2, rfl⟩ := list3 cs hcs
    obtain ⟨z0, e0, _, w0⟩ := DataW.trod_int Tryd.underlying3 g0
    obtain ⟨z1, e1, _, w1⟩ := DataW.trod_int Tryd.underlying3 g1
    obtain ⟨z2, e2, _⟩ := DataW.trod_bool Tryd.underlying4 g2
    have f0 : [c0] = [.int .i64 z0] := e0
    have f1 : [c1] = [.int .i64 z1] := e1
    have f2 : [c2] = [.bool z2] := e2
    injection f0 with f0; injection f1 with f1; injection f2 with f2
    subst f0; subst f1; subst f2
    exact ⟨(z0, z1, z2), rfl, dotOk_of (wf_int w0) (wf_int w1)⟩) h
  exact ⟨h1, h2, h3, l, hs, hp⟩
end Go.Proofs.YtifpnfhmemdljaaDoor
