/-
  Codes of packages once, cons, count: their walks. Written by gen_codes1.py.
-/
import Derived.Test.YtabmkjokeeakdaaDoorAsm3
namespace Go.Proofs.YtabmkjokeeakdaaDoor
open Go.RowKit Go.Maps
set_option linter.unusedVariables false

def onceCode : List Op5 := [⟨1, 0, 1, 0, 0⟩, ⟨15, 0, 1, 0, 2⟩, ⟨16, 0, 0, 0, 0⟩]
def consCode : List Op5 := [⟨1, 1, -1, 0, 0⟩, ⟨15, 0, 2, 0, 1⟩, ⟨13, 0, 2, 0, 0⟩, ⟨16, 0, 0, 0, 0⟩]
def addCode : List Op5 := [⟨13, 1, 2, 0, 0⟩, ⟨3, 3, 1, 0, 0⟩, ⟨15, 3, 2, 0, 1⟩, ⟨12, 3, 0, 0, 0⟩, ⟨16, 1, 0, 0, 0⟩]
def getCode : List Op5 := [⟨13, 0, 1, 0, 0⟩, ⟨16, 0, 0, 0, 0⟩]
/-- a code that a function puts together -/
def CodePost (w : World) (code : List Op5) (e : Ending) (w' : World) : Prop := ∃ v, e = .returned v ∧ Ow w w' 99 5 gO v code
theorem CodePost.of {w w1 w' : World} {a : AC} {code : List Op5} {e : Ending} (hb : Below w.heap.size w w1) (h : OpsPost w.heap.size w1 a e w') (hc : aops a = code) : CodePost w code e w' := by
  obtain ⟨v, h1, h2, h3⟩ := h
  rw [hc] at h2
  exact ⟨v, h1, ⟨h2, hb.trans h3⟩⟩
end Go.Proofs.YtabmkjokeeakdaaDoor
