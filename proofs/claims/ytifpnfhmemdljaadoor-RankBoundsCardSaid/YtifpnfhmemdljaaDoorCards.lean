/-
  DERIVED. GIVEN WITH THE SEED: THE CARDS: each row of YtifpnfhmemdljaaDoorRows.lean that lists a variable, with what it lists TIED to the program's text (the seventh form; the later family's looks); each row that meets fmt, with fmt's text TOLD by the authors' own Lean function (tested against real Go, not proved from fmt's source: count such statements apart). THE CARD IS WHAT COUNTS. Prove the row's statement (the work); the ties are given (YtifpnfhmemdljaaDoorTie.lean); close each card by the builder's one call (the guide's Derived/Test/ToyasCard.lean, 'card_holds'). Laid BY PROGRAM, IN A SANDBOX (cutbox-door.mjs). By AI agents, Wed Nov 11 2026. No macro, syntax, notation, axiom, sorry.
-/
import Derived.Test.YtifpnfhmemdljaaDoorRows
import GoSem.ClaimSeven
namespace Go.Proofs.YtifpnfhmemdljaaDoor
namespace Rows

/-- THE TIED CARD OF 'barographkeep.RankBounds'. -/
def rankBoundsCard : Claim7 := { stood := { row := rankBoundsRow, standIns := [], harness := (true, "81e5fa4a44cbf3a0394b701db6ca267721cec1f5c87111caf1afdbd3b6a844cf"), looks := false }, kinds := [], alts := [], laidByText := true, laidKinds := [.data], laidTests := true, laidLooks := .later }
def RankBoundsCardSaid : Prop := Claim7.holds Tryd.pinned (.plain (OpenSpec.ofChange rankBoundsSpec)) rankBoundsCard

/-- THE SECOND FORM's CARD OF 'barographkeep.RankBounds'. -/
def rankBoundsUptoCard : Claim7 := { stood := { row := rankBoundsUptoRow, standIns := [], harness := (true, "81e5fa4a44cbf3a0394b701db6ca267721cec1f5c87111caf1afdbd3b6a844cf"), looks := false }, kinds := [], alts := [], laidByText := true, laidKinds := [.data], laidTests := true, laidLooks := .later }
def RankBoundsUptoCardSaid : Prop := Claim7.holds Tryd.pinned (.plain (OpenSpec.upto rankBoundsSpec)) rankBoundsUptoCard
end Rows
end Go.Proofs.YtifpnfhmemdljaaDoor
