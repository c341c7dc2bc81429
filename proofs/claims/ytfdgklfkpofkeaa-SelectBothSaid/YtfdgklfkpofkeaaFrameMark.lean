/-
  The reading of a Mark and of a []Mark.
-/
import Derived.Test.YtfdgklfkpofkeaaFrame
import Derived.Test.YtfdgklfkpofkeaaTgKeep
import Derived.Deep.Strs
namespace Go.Proofs.Ytfdgklfkpofkeaa
open Go.RowKit Go.ChangeShapes Go.WideShapes Go.Deep
set_option linter.unusedVariables false
theorem list3m {α : Type} (l : List α) (h : l.length = 3) : ∃ a b c, l = [a, b, c] := by
  rcases l with _ | ⟨a, _ | ⟨b, _ | ⟨c, _ | ⟨d, l⟩⟩⟩⟩
  · simp at h
  · simp at h
  · simp at h
  · exact ⟨a, b, c, rfl⟩
  · simp at h
abbrev gK : VMark → List Value := fun m => [.int .i64 m.kind, .int .i64 m.key, .int .i64 m.value]
set_option maxRecDepth 100000 in
theorem mark_cells {H : Type} {enc : TypeId × Value → H} {W : World} {n : Nat} {cs : List Value} {y : DataW H × List MemPlace} (hy : DataW.trod enc Try.prog W 0 (fun _ => true) true n 48 cs = some y) (hcs : cs.length = 3) : ∃ m : VMark, cs = gK m ∧ m.ok := by
  obtain ⟨xs, m, _, hx, hl0, hxs, hf⟩ := DataW.trod_struct Try.underlying48 hy
  obtain ⟨u0, u1, u2, rfl⟩ := list3m xs hxs
  obtain ⟨c0, c1, c2, rfl⟩ := list3m cs hcs
  have g0 := hf 0 _ rfl; have g1 := hf 1 _ rfl; have g2 := hf 2 _ rfl
  obtain ⟨z0, e0, _, w0⟩ := DataW.trod_int Try.underlying3 (show _ = some u0 from g0)
  obtain ⟨z1, e1, _, w1⟩ := DataW.trod_int Try.underlying3 (show _ = some u1 from g1)
  obtain ⟨z2, e2, _, w2⟩ := DataW.trod_int Try.underlying3 (show _ = some u2 from g2)
  have f0 : [c0] = [.int .i64 z0] := e0
  have f1 : [c1] = [.int .i64 z1] := e1
  have f2 : [c2] = [.int .i64 z2] := e2
  injection f0 with f0; injection f1 with f1; injection f2 with f2
  subst f0; subst f1; subst f2
  exact ⟨⟨z0, z1, z2⟩, rfl, wf_int w0, wf_int w1, wf_int w2⟩
set_option maxRecDepth 100000 in
theorem rd_marks {H : Type} {enc : TypeId × Value → H} {W : World} {A : Option Addr} {len cap : Nat} {d : DataW H} {p : List MemPlace}
    (h : DataW.Trod enc Try.prog W 0 (fun _ => true) true 38 (.slice A len cap) d p) :
    len ≤ cap ∧ cap ≤ maxLen ∧ ((∀ n ∈ d.weights Try.prog 38, n ≤ reachBytes) → cap * Try.prog.bytesOf 48 ≤ reachBytes) ∧ ∃ l : List VMark, Sl W 3 A len (l.flatMap gK) ∧ ∀ x ∈ l, x.ok := by
  obtain ⟨h1, h2, h3, l, hl, hs, hp⟩ := rd_slice gK VMark.ok 3 Try.underlying38 (by kernel_rfl) (by decide) (fun _ => rfl) (fun n cs y hy hcs => mark_cells hy hcs) h
  exact ⟨h1, h2, h3, l, hs, hp⟩
set_option maxRecDepth 100000 in
theorem open_mark {H : Type} {enc : TypeId × Value → H} {W : World} {b : Nat} {v : Value} {d : DataW H} {p : List MemPlace} (hval : Value.okWide Try.prog W .any b 48 v)
    (h : DataW.Trod enc Try.prog W 0 (fun _ => true) true 48 v d p) : ∃ m : VMark, v = .agg #[.int .i64 m.kind, .int .i64 m.key, .int .i64 m.value] ∧ m.ok := by
  obtain ⟨cs, rfl, hs⟩ := okWide_struct Try.underlying48 hval
  obtain ⟨n, hy⟩ := h
  have h3 : cs.size = 3 := by rw [hs]; kernel_rfl
  obtain ⟨m, hm, hok⟩ := mark_cells (cs := cs.toList) hy (by simpa using h3)
  exact ⟨m, by rw [show cs = #[.int .i64 m.kind, .int .i64 m.key, .int .i64 m.value] from Array.ext' (by rw [hm])], hok⟩
end Go.Proofs.Ytfdgklfkpofkeaa
