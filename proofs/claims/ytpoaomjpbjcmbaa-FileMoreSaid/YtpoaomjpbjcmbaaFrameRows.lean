/-
  The reading of a [][]byte as rows.
-/
import Derived.Test.YtpoaomjpbjcmbaaFrame
import Derived.Test.YtpoaomjpbjcmbaaRws
namespace Go.Proofs.Ytpoaomjpbjcmbaa
open Go.RowKit Go.ChangeShapes Go.WideShapes Go.Deep
set_option linter.unusedVariables false
theorem rd_rows {H : Type} {enc : TypeId × Value → H} {W : World} {A : Option Addr} {len cap : Nat} {d : DataW H} {p : List MemPlace}
    (h : DataW.Trod enc Try.prog W 0 (fun _ => true) true 22 (.slice A len cap) d p) :
    len ≤ cap ∧ cap ≤ maxLen ∧ ((∀ n ∈ d.weights Try.prog 22, n ≤ reachBytes) → cap * Try.prog.bytesOf 23 ≤ reachBytes) ∧ ∃ l : List (List UInt8), Rin W A len l := by
  obtain ⟨h1, h2, h3, l, hl, hs, hp⟩ := rd_slice (fun x : Value => [x]) (fun v => ∃ l, SlB W v l) 1 Try.underlying22 (by kernel_rfl) (by decide) (fun _ => rfl) (fun n cs y hy hcs => by
    have key : ∃ A' n' c', cs = [Value.slice A' n' c'] := by
      rcases open_slice Try.underlying23 hy with ⟨hcs, hx⟩ | ⟨a, len', cap', m, n, D, Pl, hcs, _⟩
      · exact ⟨_, _, _, hcs⟩
      · exact ⟨_, _, _, hcs⟩
    obtain ⟨A', n', c', rfl⟩ := key
    obtain ⟨g1, g2, _, lb, g3⟩ := rd_bytes (enc := enc) (W := W) (A := A') (len := n') (cap := c') (d := y.1) (p := y.2) Try.underlying23 Try.underlying5 (by kernel_rfl) ⟨n, hy⟩
    have hlb := g3.lenb
    subst hlb
    exact ⟨_, rfl, lb, A', c', rfl, g1, g2, g3⟩) h
  refine ⟨h1, h2, h3, ?_⟩
  obtain ⟨ls, hll, hlr⟩ := list_of_fun l.length (fun i x => ∀ v, l[i]? = some v → SlB W v x) fun i hi => by
    obtain ⟨x, hx⟩ := hp _ (List.getElem_mem hi)
    exact ⟨x, fun v hv => by rw [List.getElem?_eq_getElem hi] at hv; injection hv with hv; rw [← hv]; exact hx⟩
  refine ⟨ls, by rw [hll, hl], l.flatMap (fun x => [x]), hs, fun i v lb hv hb => hlr i lb hb v ?_⟩
  rw [List.flatMap_singleton'] at hv
  exact hv
end Go.Proofs.Ytpoaomjpbjcmbaa
