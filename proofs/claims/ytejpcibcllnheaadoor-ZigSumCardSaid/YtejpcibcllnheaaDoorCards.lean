/-
  DERIVED. GIVEN WITH THE SEED: THE CARDS: each row of YtejpcibcllnheaaDoorRows.lean that lists a variable, with what it lists TIED to the program's text (the seventh form; the later family's looks); each row that meets fmt, with fmt's text TOLD by the authors' own Lean function (tested against real Go, not proved from fmt's source: count such statements apart). THE CARD IS WHAT COUNTS. Prove the row's statement (the work); the ties are given (YtejpcibcllnheaaDoorTie.lean); close each card by the builder's one call (the guide's Derived/Test/ToyasCard.lean, 'card_holds'). Laid BY PROGRAM, IN A SANDBOX (cutbox-door.mjs). By AI agents, Wed Nov 11 2026. No macro, syntax, notation, axiom, sorry.
-/
import Derived.Test.YtejpcibcllnheaaDoorRows
import GoSem.ClaimSeven
namespace Go.Proofs.YtejpcibcllnheaaDoor
namespace Rows

/-- THE TIED CARD OF 'barographkeep.ZigSum'. -/
def zigSumCard : Claim7 := { stood := { row := zigSumRow, standIns := [], harness := (true, "c701f3ccc31a7926ab9626d90139e37218e9eeb7fa89d59b52e13802d6e3b334"), looks := false }, kinds := [], alts := [], laidByText := true, laidKinds := [.data], laidTests := true, laidLooks := .later }
def ZigSumCardSaid : Prop := Claim7.holds Tryd.pinned (.plain (OpenSpec.ofChange zigSumSpec)) zigSumCard

/-- THE SECOND FORM's CARD OF 'barographkeep.ZigSum'. -/
def zigSumUptoCard : Claim7 := { stood := { row := zigSumUptoRow, standIns := [], harness := (true, "c701f3ccc31a7926ab9626d90139e37218e9eeb7fa89d59b52e13802d6e3b334"), looks := false }, kinds := [], alts := [], laidByText := true, laidKinds := [.data], laidTests := true, laidLooks := .later }
def ZigSumUptoCardSaid : Prop := Claim7.holds Tryd.pinned (.plain (OpenSpec.upto zigSumSpec)) zigSumUptoCard
end Rows
end Go.Proofs.YtejpcibcllnheaaDoor
