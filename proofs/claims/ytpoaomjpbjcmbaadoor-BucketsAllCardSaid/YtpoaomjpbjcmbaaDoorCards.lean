/-
  DERIVED. GIVEN WITH THE SEED: THE CARDS: each row of YtpoaomjpbjcmbaaDoorRows.lean that lists a variable, with what it lists TIED to the program's text (the seventh form; the later family's looks); each row that meets fmt, with fmt's text TOLD by the authors' own Lean function (tested against real Go, not proved from fmt's source: count such statements apart). THE CARD IS WHAT COUNTS. Prove the row's statement (the work); the ties are given (YtpoaomjpbjcmbaaDoorTie.lean); close each card by the builder's one call (the guide's Derived/Test/ToyasCard.lean, 'card_holds'). Laid BY PROGRAM, IN A SANDBOX (cutbox-door.mjs). By AI agents, Wed Nov 11 2026. No macro, syntax, notation, axiom, sorry.
-/
import Derived.Test.YtpoaomjpbjcmbaaDoorRows
import GoSem.ClaimSeven
namespace Go.Proofs.YtpoaomjpbjcmbaaDoor
namespace Rows

/-- THE TIED CARD OF 'barographkeep.ChunkSteady'. -/
def chunkSteadyCard : Claim7 := { stood := { row := chunkSteadyRow, standIns := [], harness := (true, "abede600e824fe985d99d2bb0995a16135ce40d6c67783ff02073075a48bdcbe"), looks := false }, kinds := [], alts := [], laidByText := true, laidKinds := [.data], laidTests := true, laidLooks := .later }
def ChunkSteadyCardSaid : Prop := Claim7.holds Tryd.pinned (.plain (OpenSpec.ofChange chunkSteadySpec)) chunkSteadyCard

/-- THE TIED CARD OF 'barographkeep.RollBounds'. -/
def rollBoundsCard : Claim7 := { stood := { row := rollBoundsRow, standIns := [], harness := (true, "abede600e824fe985d99d2bb0995a16135ce40d6c67783ff02073075a48bdcbe"), looks := false }, kinds := [], alts := [], laidByText := true, laidKinds := [.data], laidTests := true, laidLooks := .later }
def RollBoundsCardSaid : Prop := Claim7.holds Tryd.pinned (.plain (OpenSpec.ofChange rollBoundsSpec)) rollBoundsCard

/-- THE TIED CARD OF 'barographkeep.MeanParts'. -/
def meanPartsCard : Claim7 := { stood := { row := meanPartsRow, standIns := [], harness := (true, "abede600e824fe985d99d2bb0995a16135ce40d6c67783ff02073075a48bdcbe"), looks := false }, kinds := [], alts := [], laidByText := true, laidKinds := [.data], laidTests := true, laidLooks := .later }
def MeanPartsCardSaid : Prop := Claim7.holds Tryd.pinned (.plain (OpenSpec.ofChange meanPartsSpec)) meanPartsCard

/-- THE TIED CARD OF 'barographkeep.ZigBack'. -/
def zigBackCard : Claim7 := { stood := { row := zigBackRow, standIns := [], harness := (true, "abede600e824fe985d99d2bb0995a16135ce40d6c67783ff02073075a48bdcbe"), looks := false }, kinds := [], alts := [], laidByText := true, laidKinds := [.data], laidTests := true, laidLooks := .later }
def ZigBackCardSaid : Prop := Claim7.holds Tryd.pinned (.plain (OpenSpec.ofChange zigBackSpec)) zigBackCard

/-- THE TIED CARD OF 'barographkeep.RiseParts'. -/
def risePartsCard : Claim7 := { stood := { row := risePartsRow, standIns := [], harness := (true, "abede600e824fe985d99d2bb0995a16135ce40d6c67783ff02073075a48bdcbe"), looks := false }, kinds := [], alts := [], laidByText := true, laidKinds := [.data], laidTests := true, laidLooks := .later }
def RisePartsCardSaid : Prop := Claim7.holds Tryd.pinned (.plain (OpenSpec.ofChange risePartsSpec)) risePartsCard

/-- THE TIED CARD OF 'barographkeep.RiseNever'. -/
def riseNeverCard : Claim7 := { stood := { row := riseNeverRow, standIns := [], harness := (true, "abede600e824fe985d99d2bb0995a16135ce40d6c67783ff02073075a48bdcbe"), looks := false }, kinds := [], alts := [], laidByText := true, laidKinds := [.data], laidTests := true, laidLooks := .later }
def RiseNeverCardSaid : Prop := Claim7.holds Tryd.pinned (.plain (OpenSpec.ofChange riseNeverSpec)) riseNeverCard

/-- THE TIED CARD OF 'barographkeep.RollParts'. -/
def rollPartsCard : Claim7 := { stood := { row := rollPartsRow, standIns := [], harness := (true, "abede600e824fe985d99d2bb0995a16135ce40d6c67783ff02073075a48bdcbe"), looks := false }, kinds := [], alts := [], laidByText := true, laidKinds := [.data], laidTests := true, laidLooks := .later }
def RollPartsCardSaid : Prop := Claim7.holds Tryd.pinned (.plain (OpenSpec.ofChange rollPartsSpec)) rollPartsCard

/-- THE TIED CARD OF 'barographkeep.AtBetween'. -/
def atBetweenCard : Claim7 := { stood := { row := atBetweenRow, standIns := [], harness := (true, "abede600e824fe985d99d2bb0995a16135ce40d6c67783ff02073075a48bdcbe"), looks := false }, kinds := [], alts := [], laidByText := true, laidKinds := [.data], laidTests := true, laidLooks := .later }
def AtBetweenCardSaid : Prop := Claim7.holds Tryd.pinned (.plain (OpenSpec.ofChange atBetweenSpec)) atBetweenCard

/-- THE TIED CARD OF 'barographkeep.BucketsAll'. -/
def bucketsAllCard : Claim7 := { stood := { row := bucketsAllRow, standIns := [], harness := (true, "abede600e824fe985d99d2bb0995a16135ce40d6c67783ff02073075a48bdcbe"), looks := false }, kinds := [], alts := [], laidByText := true, laidKinds := [.data], laidTests := true, laidLooks := .later }
def BucketsAllCardSaid : Prop := Claim7.holds Tryd.pinned (.plain (OpenSpec.ofChange bucketsAllSpec)) bucketsAllCard

/-- THE TIED CARD OF 'barographkeep.ChunkBack'. -/
def chunkBackCard : Claim7 := { stood := { row := chunkBackRow, standIns := [], harness := (true, "abede600e824fe985d99d2bb0995a16135ce40d6c67783ff02073075a48bdcbe"), looks := false }, kinds := [], alts := [], laidByText := true, laidKinds := [.data], laidTests := true, laidLooks := .later }
def ChunkBackCardSaid : Prop := Claim7.holds Tryd.pinned (.plain (OpenSpec.ofChange chunkBackSpec)) chunkBackCard

/-- THE TIED CARD OF 'barographkeep.ChunkFixed'. -/
def chunkFixedCard : Claim7 := { stood := { row := chunkFixedRow, standIns := [], harness := (true, "abede600e824fe985d99d2bb0995a16135ce40d6c67783ff02073075a48bdcbe"), looks := false }, kinds := [], alts := [], laidByText := true, laidKinds := [.data], laidTests := true, laidLooks := .later }
def ChunkFixedCardSaid : Prop := Claim7.holds Tryd.pinned (.plain (OpenSpec.ofChange chunkFixedSpec)) chunkFixedCard

/-- THE TIED CARD OF 'barographkeep.ChunkShift'. -/
def chunkShiftCard : Claim7 := { stood := { row := chunkShiftRow, standIns := [], harness := (true, "abede600e824fe985d99d2bb0995a16135ce40d6c67783ff02073075a48bdcbe"), looks := false }, kinds := [], alts := [], laidByText := true, laidKinds := [.data], laidTests := true, laidLooks := .later }
def ChunkShiftCardSaid : Prop := Claim7.holds Tryd.pinned (.plain (OpenSpec.ofChange chunkShiftSpec)) chunkShiftCard

/-- THE SECOND FORM's CARD OF 'barographkeep.ChunkSteady'. -/
def chunkSteadyUptoCard : Claim7 := { stood := { row := chunkSteadyUptoRow, standIns := [], harness := (true, "abede600e824fe985d99d2bb0995a16135ce40d6c67783ff02073075a48bdcbe"), looks := false }, kinds := [], alts := [], laidByText := true, laidKinds := [.data], laidTests := true, laidLooks := .later }
def ChunkSteadyUptoCardSaid : Prop := Claim7.holds Tryd.pinned (.plain (OpenSpec.upto chunkSteadySpec)) chunkSteadyUptoCard

/-- THE SECOND FORM's CARD OF 'barographkeep.RollBounds'. -/
def rollBoundsUptoCard : Claim7 := { stood := { row := rollBoundsUptoRow, standIns := [], harness := (true, "abede600e824fe985d99d2bb0995a16135ce40d6c67783ff02073075a48bdcbe"), looks := false }, kinds := [], alts := [], laidByText := true, laidKinds := [.data], laidTests := true, laidLooks := .later }
def RollBoundsUptoCardSaid : Prop := Claim7.holds Tryd.pinned (.plain (OpenSpec.upto rollBoundsSpec)) rollBoundsUptoCard

/-- THE SECOND FORM's CARD OF 'barographkeep.MeanParts'. -/
def meanPartsUptoCard : Claim7 := { stood := { row := meanPartsUptoRow, standIns := [], harness := (true, "abede600e824fe985d99d2bb0995a16135ce40d6c67783ff02073075a48bdcbe"), looks := false }, kinds := [], alts := [], laidByText := true, laidKinds := [.data], laidTests := true, laidLooks := .later }
def MeanPartsUptoCardSaid : Prop := Claim7.holds Tryd.pinned (.plain (OpenSpec.upto meanPartsSpec)) meanPartsUptoCard

/-- THE SECOND FORM's CARD OF 'barographkeep.ZigBack'. -/
def zigBackUptoCard : Claim7 := { stood := { row := zigBackUptoRow, standIns := [], harness := (true, "abede600e824fe985d99d2bb0995a16135ce40d6c67783ff02073075a48bdcbe"), looks := false }, kinds := [], alts := [], laidByText := true, laidKinds := [.data], laidTests := true, laidLooks := .later }
def ZigBackUptoCardSaid : Prop := Claim7.holds Tryd.pinned (.plain (OpenSpec.upto zigBackSpec)) zigBackUptoCard

/-- THE SECOND FORM's CARD OF 'barographkeep.RiseParts'. -/
def risePartsUptoCard : Claim7 := { stood := { row := risePartsUptoRow, standIns := [], harness := (true, "abede600e824fe985d99d2bb0995a16135ce40d6c67783ff02073075a48bdcbe"), looks := false }, kinds := [], alts := [], laidByText := true, laidKinds := [.data], laidTests := true, laidLooks := .later }
def RisePartsUptoCardSaid : Prop := Claim7.holds Tryd.pinned (.plain (OpenSpec.upto risePartsSpec)) risePartsUptoCard

/-- THE SECOND FORM's CARD OF 'barographkeep.RiseNever'. -/
def riseNeverUptoCard : Claim7 := { stood := { row := riseNeverUptoRow, standIns := [], harness := (true, "abede600e824fe985d99d2bb0995a16135ce40d6c67783ff02073075a48bdcbe"), looks := false }, kinds := [], alts := [], laidByText := true, laidKinds := [.data], laidTests := true, laidLooks := .later }
def RiseNeverUptoCardSaid : Prop := Claim7.holds Tryd.pinned (.plain (OpenSpec.upto riseNeverSpec)) riseNeverUptoCard

/-- THE SECOND FORM's CARD OF 'barographkeep.RollParts'. -/
def rollPartsUptoCard : Claim7 := { stood := { row := rollPartsUptoRow, standIns := [], harness := (true, "abede600e824fe985d99d2bb0995a16135ce40d6c67783ff02073075a48bdcbe"), looks := false }, kinds := [], alts := [], laidByText := true, laidKinds := [.data], laidTests := true, laidLooks := .later }
def RollPartsUptoCardSaid : Prop := Claim7.holds Tryd.pinned (.plain (OpenSpec.upto rollPartsSpec)) rollPartsUptoCard

/-- THE SECOND FORM's CARD OF 'barographkeep.AtBetween'. -/
def atBetweenUptoCard : Claim7 := { stood := { row := atBetweenUptoRow, standIns := [], harness := (true, "abede600e824fe985d99d2bb0995a16135ce40d6c67783ff02073075a48bdcbe"), looks := false }, kinds := [], alts := [], laidByText := true, laidKinds := [.data], laidTests := true, laidLooks := .later }
def AtBetweenUptoCardSaid : Prop := Claim7.holds Tryd.pinned (.plain (OpenSpec.upto atBetweenSpec)) atBetweenUptoCard

/-- THE SECOND FORM's CARD OF 'barographkeep.BucketsAll'. -/
def bucketsAllUptoCard : Claim7 := { stood := { row := bucketsAllUptoRow, standIns := [], harness := (true, "abede600e824fe985d99d2bb0995a16135ce40d6c67783ff02073075a48bdcbe"), looks := false }, kinds := [], alts := [], laidByText := true, laidKinds := [.data], laidTests := true, laidLooks := .later }
def BucketsAllUptoCardSaid : Prop := Claim7.holds Tryd.pinned (.plain (OpenSpec.upto bucketsAllSpec)) bucketsAllUptoCard

/-- THE SECOND FORM's CARD OF 'barographkeep.ChunkBack'. -/
def chunkBackUptoCard : Claim7 := { stood := { row := chunkBackUptoRow, standIns := [], harness := (true, "abede600e824fe985d99d2bb0995a16135ce40d6c67783ff02073075a48bdcbe"), looks := false }, kinds := [], alts := [], laidByText := true, laidKinds := [.data], laidTests := true, laidLooks := .later }
def ChunkBackUptoCardSaid : Prop := Claim7.holds Tryd.pinned (.plain (OpenSpec.upto chunkBackSpec)) chunkBackUptoCard

/-- THE SECOND FORM's CARD OF 'barographkeep.ChunkFixed'. -/
def chunkFixedUptoCard : Claim7 := { stood := { row := chunkFixedUptoRow, standIns := [], harness := (true, "abede600e824fe985d99d2bb0995a16135ce40d6c67783ff02073075a48bdcbe"), looks := false }, kinds := [], alts := [], laidByText := true, laidKinds := [.data], laidTests := true, laidLooks := .later }
def ChunkFixedUptoCardSaid : Prop := Claim7.holds Tryd.pinned (.plain (OpenSpec.upto chunkFixedSpec)) chunkFixedUptoCard

/-- THE SECOND FORM's CARD OF 'barographkeep.ChunkShift'. -/
def chunkShiftUptoCard : Claim7 := { stood := { row := chunkShiftUptoRow, standIns := [], harness := (true, "abede600e824fe985d99d2bb0995a16135ce40d6c67783ff02073075a48bdcbe"), looks := false }, kinds := [], alts := [], laidByText := true, laidKinds := [.data], laidTests := true, laidLooks := .later }
def ChunkShiftUptoCardSaid : Prop := Claim7.holds Tryd.pinned (.plain (OpenSpec.upto chunkShiftSpec)) chunkShiftUptoCard
end Rows
end Go.Proofs.YtpoaomjpbjcmbaaDoor
