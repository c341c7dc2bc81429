/-
  The reading of a []bool.
-/
import Derived.Test.YtbcjgnigdddlkaaDoorFrame
import Derived.Test.YtbcjgnigdddlkaaDoorBase
namespace Go.Proofs.YtbcjgnigdddlkaaDoor
open Go.RowKit Go.ChangeShapes Go.WideShapes
set_option linter.unusedVariables false
theorem rd_bools {H : Type} {enc : TypeId × Value → H} {W : World} {A : Option Addr} {len cap : Nat} {d : DataW H} {p : List MemPlace}
    (h : DataW.Trod enc Tryd.prog W 0 (fun _ => true) true 40 (.slice A len cap) d p) :
    len ≤ cap ∧ cap ≤ maxLen ∧ ((∀ n ∈ d.weights Tryd.prog 40, n ≤ reachBytes) → cap * Tryd.prog.bytesOf 4 ≤ reachBytes) ∧ ∃ l : List Bool, Sl W 1 A len (l.flatMap fun b : Bool => [Value.bool b]) ∧ True := by
  obtain ⟨h1, h2, h3, l, hl, hs, _⟩ := rd_slice (fun b : Bool => [Value.bool b]) (fun _ => True) 1 Tryd.underlying40 (by kernel_rfl) (by decide) (fun _ => rfl) (fun n cs y hy _ => by
    obtain ⟨z, hz, _⟩ := DataW.trod_bool Tryd.underlying4 hy
    exact ⟨z, hz, trivial⟩) h
  exact ⟨h1, h2, h3, l, hs, trivial⟩
end Go.Proofs.YtbcjgnigdddlkaaDoor
