/-
  DERIVED. GIVEN WITH THE SEED: THE CARDS: each row of YtabmkjokeeakdaaDoorRows.lean that lists a variable, with what it lists TIED to the program's text (the seventh form; the later family's looks); each row that meets fmt, with fmt's text TOLD by the authors' own Lean function (tested against real Go, not proved from fmt's source: count such statements apart). THE CARD IS WHAT COUNTS. Prove the row's statement (the work); the ties are given (YtabmkjokeeakdaaDoorTie.lean); close each card by the builder's one call (the guide's Derived/Test/ToyasCard.lean, 'card_holds'). Laid BY PROGRAM, IN A SANDBOX (cutbox-door.mjs). By AI agents, Wed Nov 11 2026. No macro, syntax, notation, axiom, sorry.
-/
import Derived.Test.YtabmkjokeeakdaaDoorRows
import GoSem.ClaimSeven
namespace Go.Proofs.YtabmkjokeeakdaaDoor
namespace Rows

/-- THE TIED CARD OF 'barographkeep.StackAll'. -/
def stackAllCard : Claim7 := { stood := { row := stackAllRow, standIns := [], harness := (true, "1fb8fec741d9a326e17459a181efc09969107a122a319ecc615ad64efdd64bf8"), looks := false }, kinds := [], alts := [], laidByText := true, laidKinds := [.data], laidTests := true, laidLooks := .later }
def StackAllCardSaid : Prop := Claim7.holds Tryd.pinned (.plain (OpenSpec.ofChange stackAllSpec)) stackAllCard

/-- THE TIED CARD OF 'barographkeep.EpochSafe'. -/
def epochSafeCard : Claim7 := { stood := { row := epochSafeRow, standIns := [], harness := (true, "1fb8fec741d9a326e17459a181efc09969107a122a319ecc615ad64efdd64bf8"), looks := false }, kinds := [], alts := [], laidByText := true, laidKinds := [.data], laidTests := true, laidLooks := .later }
def EpochSafeCardSaid : Prop := Claim7.holds Tryd.pinned (.plain (OpenSpec.ofChange epochSafeSpec)) epochSafeCard

/-- THE TIED CARD OF 'barographkeep.EpochFrees'. -/
def epochFreesCard : Claim7 := { stood := { row := epochFreesRow, standIns := [], harness := (true, "1fb8fec741d9a326e17459a181efc09969107a122a319ecc615ad64efdd64bf8"), looks := false }, kinds := [], alts := [], laidByText := true, laidKinds := [.data], laidTests := true, laidLooks := .later }
def EpochFreesCardSaid : Prop := Claim7.holds Tryd.pinned (.plain (OpenSpec.ofChange epochFreesSpec)) epochFreesCard

/-- THE TIED CARD OF 'barographkeep.EpochHolds'. -/
def epochHoldsCard : Claim7 := { stood := { row := epochHoldsRow, standIns := [], harness := (true, "1fb8fec741d9a326e17459a181efc09969107a122a319ecc615ad64efdd64bf8"), looks := false }, kinds := [], alts := [], laidByText := true, laidKinds := [.data], laidTests := true, laidLooks := .later }
def EpochHoldsCardSaid : Prop := Claim7.holds Tryd.pinned (.plain (OpenSpec.ofChange epochHoldsSpec)) epochHoldsCard

/-- THE TIED CARD OF 'barographkeep.SnapOnce'. -/
def snapOnceCard : Claim7 := { stood := { row := snapOnceRow, standIns := [], harness := (true, "1fb8fec741d9a326e17459a181efc09969107a122a319ecc615ad64efdd64bf8"), looks := false }, kinds := [], alts := [], laidByText := true, laidKinds := [.data, .data, .data, .data], laidTests := true, laidLooks := .later }
def SnapOnceCardSaid : Prop := Claim7.holds Tryd.pinned (.plain (OpenSpec.ofChange snapOnceSpec)) snapOnceCard

/-- THE TIED CARD OF 'barographkeep.SnapEnds'. -/
def snapEndsCard : Claim7 := { stood := { row := snapEndsRow, standIns := [], harness := (true, "1fb8fec741d9a326e17459a181efc09969107a122a319ecc615ad64efdd64bf8"), looks := false }, kinds := [], alts := [], laidByText := true, laidKinds := [.data, .data, .data, .data], laidTests := true, laidLooks := .later }
def SnapEndsCardSaid : Prop := Claim7.holds Tryd.pinned (.plain (OpenSpec.ofChange snapEndsSpec)) snapEndsCard

/-- THE TIED CARD OF 'barographkeep.SnapTells'. -/
def snapTellsCard : Claim7 := { stood := { row := snapTellsRow, standIns := [], harness := (true, "1fb8fec741d9a326e17459a181efc09969107a122a319ecc615ad64efdd64bf8"), looks := false }, kinds := [], alts := [], laidByText := true, laidKinds := [.data, .data, .data, .data], laidTests := true, laidLooks := .later }
def SnapTellsCardSaid : Prop := Claim7.holds Tryd.pinned (.plain (OpenSpec.ofChange snapTellsSpec)) snapTellsCard

/-- THE TIED CARD OF 'barographkeep.SnapAgain'. -/
def snapAgainCard : Claim7 := { stood := { row := snapAgainRow, standIns := [], harness := (true, "1fb8fec741d9a326e17459a181efc09969107a122a319ecc615ad64efdd64bf8"), looks := false }, kinds := [], alts := [], laidByText := true, laidKinds := [.data, .data, .data, .data], laidTests := true, laidLooks := .later }
def SnapAgainCardSaid : Prop := Claim7.holds Tryd.pinned (.plain (OpenSpec.ofChange snapAgainSpec)) snapAgainCard

/-- THE TIED CARD OF 'barographkeep.CellWhole'. -/
def cellWholeCard : Claim7 := { stood := { row := cellWholeRow, standIns := [], harness := (true, "1fb8fec741d9a326e17459a181efc09969107a122a319ecc615ad64efdd64bf8"), looks := false }, kinds := [], alts := [], laidByText := true, laidKinds := [.data, .data, .data, .data], laidTests := true, laidLooks := .later }
def CellWholeCardSaid : Prop := Claim7.holds Tryd.pinned (.plain (OpenSpec.ofChange cellWholeSpec)) cellWholeCard

/-- THE TIED CARD OF 'barographkeep.CellEnds'. -/
def cellEndsCard : Claim7 := { stood := { row := cellEndsRow, standIns := [], harness := (true, "1fb8fec741d9a326e17459a181efc09969107a122a319ecc615ad64efdd64bf8"), looks := false }, kinds := [], alts := [], laidByText := true, laidKinds := [.data, .data, .data, .data], laidTests := true, laidLooks := .later }
def CellEndsCardSaid : Prop := Claim7.holds Tryd.pinned (.plain (OpenSpec.ofChange cellEndsSpec)) cellEndsCard

/-- THE SECOND FORM's CARD OF 'barographkeep.StackAll'. -/
def stackAllUptoCard : Claim7 := { stood := { row := stackAllUptoRow, standIns := [], harness := (true, "1fb8fec741d9a326e17459a181efc09969107a122a319ecc615ad64efdd64bf8"), looks := false }, kinds := [], alts := [], laidByText := true, laidKinds := [.data], laidTests := true, laidLooks := .later }
def StackAllUptoCardSaid : Prop := Claim7.holds Tryd.pinned (.plain (OpenSpec.upto stackAllSpec)) stackAllUptoCard

/-- THE SECOND FORM's CARD OF 'barographkeep.EpochSafe'. -/
def epochSafeUptoCard : Claim7 := { stood := { row := epochSafeUptoRow, standIns := [], harness := (true, "1fb8fec741d9a326e17459a181efc09969107a122a319ecc615ad64efdd64bf8"), looks := false }, kinds := [], alts := [], laidByText := true, laidKinds := [.data], laidTests := true, laidLooks := .later }
def EpochSafeUptoCardSaid : Prop := Claim7.holds Tryd.pinned (.plain (OpenSpec.upto epochSafeSpec)) epochSafeUptoCard

/-- THE SECOND FORM's CARD OF 'barographkeep.EpochFrees'. -/
def epochFreesUptoCard : Claim7 := { stood := { row := epochFreesUptoRow, standIns := [], harness := (true, "1fb8fec741d9a326e17459a181efc09969107a122a319ecc615ad64efdd64bf8"), looks := false }, kinds := [], alts := [], laidByText := true, laidKinds := [.data], laidTests := true, laidLooks := .later }
def EpochFreesUptoCardSaid : Prop := Claim7.holds Tryd.pinned (.plain (OpenSpec.upto epochFreesSpec)) epochFreesUptoCard

/-- THE SECOND FORM's CARD OF 'barographkeep.EpochHolds'. -/
def epochHoldsUptoCard : Claim7 := { stood := { row := epochHoldsUptoRow, standIns := [], harness := (true, "1fb8fec741d9a326e17459a181efc09969107a122a319ecc615ad64efdd64bf8"), looks := false }, kinds := [], alts := [], laidByText := true, laidKinds := [.data], laidTests := true, laidLooks := .later }
def EpochHoldsUptoCardSaid : Prop := Claim7.holds Tryd.pinned (.plain (OpenSpec.upto epochHoldsSpec)) epochHoldsUptoCard

/-- THE SECOND FORM's CARD OF 'barographkeep.SnapOnce'. -/
def snapOnceUptoCard : Claim7 := { stood := { row := snapOnceUptoRow, standIns := [], harness := (true, "1fb8fec741d9a326e17459a181efc09969107a122a319ecc615ad64efdd64bf8"), looks := false }, kinds := [], alts := [], laidByText := true, laidKinds := [.data, .data, .data, .data], laidTests := true, laidLooks := .later }
def SnapOnceUptoCardSaid : Prop := Claim7.holds Tryd.pinned (.plain (OpenSpec.upto snapOnceSpec)) snapOnceUptoCard

/-- THE SECOND FORM's CARD OF 'barographkeep.SnapEnds'. -/
def snapEndsUptoCard : Claim7 := { stood := { row := snapEndsUptoRow, standIns := [], harness := (true, "1fb8fec741d9a326e17459a181efc09969107a122a319ecc615ad64efdd64bf8"), looks := false }, kinds := [], alts := [], laidByText := true, laidKinds := [.data, .data, .data, .data], laidTests := true, laidLooks := .later }
def SnapEndsUptoCardSaid : Prop := Claim7.holds Tryd.pinned (.plain (OpenSpec.upto snapEndsSpec)) snapEndsUptoCard

/-- THE SECOND FORM's CARD OF 'barographkeep.SnapTells'. -/
def snapTellsUptoCard : Claim7 := { stood := { row := snapTellsUptoRow, standIns := [], harness := (true, "1fb8fec741d9a326e17459a181efc09969107a122a319ecc615ad64efdd64bf8"), looks := false }, kinds := [], alts := [], laidByText := true, laidKinds := [.data, .data, .data, .data], laidTests := true, laidLooks := .later }
def SnapTellsUptoCardSaid : Prop := Claim7.holds Tryd.pinned (.plain (OpenSpec.upto snapTellsSpec)) snapTellsUptoCard

/-- THE SECOND FORM's CARD OF 'barographkeep.SnapAgain'. -/
def snapAgainUptoCard : Claim7 := { stood := { row := snapAgainUptoRow, standIns := [], harness := (true, "1fb8fec741d9a326e17459a181efc09969107a122a319ecc615ad64efdd64bf8"), looks := false }, kinds := [], alts := [], laidByText := true, laidKinds := [.data, .data, .data, .data], laidTests := true, laidLooks := .later }
def SnapAgainUptoCardSaid : Prop := Claim7.holds Tryd.pinned (.plain (OpenSpec.upto snapAgainSpec)) snapAgainUptoCard

/-- THE SECOND FORM's CARD OF 'barographkeep.CellWhole'. -/
def cellWholeUptoCard : Claim7 := { stood := { row := cellWholeUptoRow, standIns := [], harness := (true, "1fb8fec741d9a326e17459a181efc09969107a122a319ecc615ad64efdd64bf8"), looks := false }, kinds := [], alts := [], laidByText := true, laidKinds := [.data, .data, .data, .data], laidTests := true, laidLooks := .later }
def CellWholeUptoCardSaid : Prop := Claim7.holds Tryd.pinned (.plain (OpenSpec.upto cellWholeSpec)) cellWholeUptoCard

/-- THE SECOND FORM's CARD OF 'barographkeep.CellEnds'. -/
def cellEndsUptoCard : Claim7 := { stood := { row := cellEndsUptoRow, standIns := [], harness := (true, "1fb8fec741d9a326e17459a181efc09969107a122a319ecc615ad64efdd64bf8"), looks := false }, kinds := [], alts := [], laidByText := true, laidKinds := [.data, .data, .data, .data], laidTests := true, laidLooks := .later }
def CellEndsUptoCardSaid : Prop := Claim7.holds Tryd.pinned (.plain (OpenSpec.upto cellEndsSpec)) cellEndsUptoCard
end Rows
end Go.Proofs.YtabmkjokeeakdaaDoor
