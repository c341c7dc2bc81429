/-
  The reading of a []Deal.
-/
import Derived.Test.YtfdgklfkpofkeaaFrame
import Derived.Test.YtfdgklfkpofkeaaLnSq
import Derived.Deep.Strs
namespace Go.Proofs.Ytfdgklfkpofkeaa
open Go.RowKit Go.ChangeShapes Go.WideShapes Go.Deep
set_option linter.unusedVariables false
theorem list5 {α : Type} (l : List α) (h : l.length = 5) : ∃ a b c d e, l = [a, b, c, d, e] := by
  rcases l with _ | ⟨a, _ | ⟨b, _ | ⟨c, _ | ⟨d, _ | ⟨e, _ | ⟨f, l⟩⟩⟩⟩⟩⟩
  · simp at h
  · simp at h
  · simp at h
  · simp at h
  · simp at h
  · exact ⟨a, b, c, d, e, rfl⟩
  · simp at h
def DealOk (x : VDeal) : Prop := I64 x.val ∧ I64 x.early ∧ I64 x.late
set_option maxRecDepth 100000 in
theorem rd_deals {H : Type} {enc : TypeId × Value → H} {W : World} {A : Option Addr} {len cap : Nat} {d : DataW H} {p : List MemPlace}
    (h : DataW.Trod enc Try.prog W 0 (fun _ => true) true 22 (.slice A len cap) d p) :
    len ≤ cap ∧ cap ≤ maxLen ∧ ((∀ n ∈ d.weights Try.prog 22, n ≤ reachBytes) → cap * Try.prog.bytesOf 79 ≤ reachBytes) ∧ ∃ l : List VDeal, Sl W 5 A len (l.flatMap gD) ∧ ∀ x ∈ l, DealOk x := by
  obtain ⟨h1, h2, h3, l, hl, hs, hp⟩ := rd_slice gD DealOk 5 Try.underlying22 (by kernel_rfl) (by decide) (fun _ => rfl) (fun n cs y hy hcs => by
    obtain ⟨xs, m, _, hx, hl0, hxs, hf⟩ := DataW.trod_struct Try.underlying79 hy
    obtain ⟨u0, u1, u2, u3, u4, rfl⟩ := list5 xs hxs
    obtain ⟨c0, c1, c2, c3, c4, rfl⟩ := list5 cs hcs
    have g0 := hf 0 _ rfl; have g1 := hf 1 _ rfl; have g2 := hf 2 _ rfl; have g3 := hf 3 _ rfl; have g4 := hf 4 _ rfl
    obtain ⟨z0, e0, _⟩ := DataW.trod_bool Try.underlying4 (show _ = some u0 from g0)
    obtain ⟨z1, e1, _, w1⟩ := DataW.trod_int Try.underlying3 (show _ = some u1 from g1)
    obtain ⟨z2, e2, _, w2⟩ := DataW.trod_int Try.underlying3 (show _ = some u2 from g2)
    obtain ⟨z3, e3, _, w3⟩ := DataW.trod_int Try.underlying3 (show _ = some u3 from g3)
    obtain ⟨z4, e4, _⟩ := DataW.trod_bool Try.underlying4 (show _ = some u4 from g4)
    have f0 : [c0] = [.bool z0] := e0
    have f1 : [c1] = [.int .i64 z1] := e1
    have f2 : [c2] = [.int .i64 z2] := e2
    have f3 : [c3] = [.int .i64 z3] := e3
    have f4 : [c4] = [.bool z4] := e4
    injection f0 with f0; injection f1 with f1; injection f2 with f2; injection f3 with f3; injection f4 with f4
    subst f0; subst f1; subst f2; subst f3; subst f4
    exact ⟨⟨z0, z1, z2, z3, z4⟩, rfl, wf_int w1, wf_int w2, wf_int w3⟩) h
  exact ⟨h1, h2, h3, l, hs, hp⟩
end Go.Proofs.Ytfdgklfkpofkeaa
