/-
  DERIVED. GIVEN WITH THE SEED: THE CARDS: each row of YtljdnbdmfhcmpaaDoorRows.lean that lists a variable, with what it lists TIED to the program's text (the seventh form; the later family's looks); each row that meets fmt, with fmt's text TOLD by the authors' own Lean function (tested against real Go, not proved from fmt's source: count such statements apart). THE CARD IS WHAT COUNTS. Prove the row's statement (the work); the ties are given (YtljdnbdmfhcmpaaDoorTie.lean); close each card by the builder's one call (the guide's Derived/Test/ToyasCard.lean, 'card_holds'). Laid BY PROGRAM, IN A SANDBOX (cutbox-door.mjs). By AI agents, Wed Nov 11 2026. No macro, syntax, notation, axiom, sorry.
-/
import Derived.Test.YtljdnbdmfhcmpaaDoorRows
import GoSem.ClaimSeven
namespace Go.Proofs.YtljdnbdmfhcmpaaDoor
namespace Rows

/-- THE TIED CARD OF 'barographkeep.VmSteps'. -/
def vmStepsCard : Claim7 := { stood := { row := vmStepsRow, standIns := [], harness := (true, "6c9f17d9b6981b8d4cced9fdcc540cae3b6f46f9896b889b78472aa0ba130d8b"), looks := false }, kinds := [], alts := [], laidByText := true, laidKinds := [.data], laidTests := true, laidLooks := .later }
def VmStepsCardSaid : Prop := Claim7.holds Tryd.pinned (.plain (OpenSpec.ofChange vmStepsSpec)) vmStepsCard

/-- THE TIED CARD OF 'barographkeep.VmWords'. -/
def vmWordsCard : Claim7 := { stood := { row := vmWordsRow, standIns := [], harness := (true, "6c9f17d9b6981b8d4cced9fdcc540cae3b6f46f9896b889b78472aa0ba130d8b"), looks := false }, kinds := [], alts := [], laidByText := true, laidKinds := [.data], laidTests := true, laidLooks := .later }
def VmWordsCardSaid : Prop := Claim7.holds Tryd.pinned (.plain (OpenSpec.ofChange vmWordsSpec)) vmWordsCard

/-- THE TIED CARD OF 'barographkeep.VmRenamed'. -/
def vmRenamedCard : Claim7 := { stood := { row := vmRenamedRow, standIns := [], harness := (true, "6c9f17d9b6981b8d4cced9fdcc540cae3b6f46f9896b889b78472aa0ba130d8b"), looks := false }, kinds := [], alts := [], laidByText := true, laidKinds := [.data], laidTests := true, laidLooks := .later }
def VmRenamedCardSaid : Prop := Claim7.holds Tryd.pinned (.plain (OpenSpec.ofChange vmRenamedSpec)) vmRenamedCard

/-- THE TIED CARD OF 'barographkeep.VmMoved'. -/
def vmMovedCard : Claim7 := { stood := { row := vmMovedRow, standIns := [], harness := (true, "6c9f17d9b6981b8d4cced9fdcc540cae3b6f46f9896b889b78472aa0ba130d8b"), looks := false }, kinds := [], alts := [], laidByText := true, laidKinds := [.data], laidTests := true, laidLooks := .later }
def VmMovedCardSaid : Prop := Claim7.holds Tryd.pinned (.plain (OpenSpec.ofChange vmMovedSpec)) vmMovedCard

/-- THE TIED CARD OF 'barographkeep.RunParts'. -/
def runPartsCard : Claim7 := { stood := { row := runPartsRow, standIns := [], harness := (true, "6c9f17d9b6981b8d4cced9fdcc540cae3b6f46f9896b889b78472aa0ba130d8b"), looks := false }, kinds := [], alts := [], laidByText := true, laidKinds := [.data], laidTests := true, laidLooks := .later }
def RunPartsCardSaid : Prop := Claim7.holds Tryd.pinned (.plain (OpenSpec.ofChange runPartsSpec)) runPartsCard

/-- THE TIED CARD OF 'barographkeep.RunBetween'. -/
def runBetweenCard : Claim7 := { stood := { row := runBetweenRow, standIns := [], harness := (true, "6c9f17d9b6981b8d4cced9fdcc540cae3b6f46f9896b889b78472aa0ba130d8b"), looks := false }, kinds := [], alts := [], laidByText := true, laidKinds := [.data], laidTests := true, laidLooks := .later }
def RunBetweenCardSaid : Prop := Claim7.holds Tryd.pinned (.plain (OpenSpec.ofChange runBetweenSpec)) runBetweenCard

/-- THE TIED CARD OF 'barographkeep.RunIdle'. -/
def runIdleCard : Claim7 := { stood := { row := runIdleRow, standIns := [], harness := (true, "6c9f17d9b6981b8d4cced9fdcc540cae3b6f46f9896b889b78472aa0ba130d8b"), looks := false }, kinds := [], alts := [], laidByText := true, laidKinds := [.data], laidTests := true, laidLooks := .later }
def RunIdleCardSaid : Prop := Claim7.holds Tryd.pinned (.plain (OpenSpec.ofChange runIdleSpec)) runIdleCard

/-- THE TIED CARD OF 'barographkeep.RunAlone'. -/
def runAloneCard : Claim7 := { stood := { row := runAloneRow, standIns := [], harness := (true, "6c9f17d9b6981b8d4cced9fdcc540cae3b6f46f9896b889b78472aa0ba130d8b"), looks := false }, kinds := [], alts := [], laidByText := true, laidKinds := [.data], laidTests := true, laidLooks := .later }
def RunAloneCardSaid : Prop := Claim7.holds Tryd.pinned (.plain (OpenSpec.ofChange runAloneSpec)) runAloneCard

/-- THE SECOND FORM's CARD OF 'barographkeep.VmSteps'. -/
def vmStepsUptoCard : Claim7 := { stood := { row := vmStepsUptoRow, standIns := [], harness := (true, "6c9f17d9b6981b8d4cced9fdcc540cae3b6f46f9896b889b78472aa0ba130d8b"), looks := false }, kinds := [], alts := [], laidByText := true, laidKinds := [.data], laidTests := true, laidLooks := .later }
def VmStepsUptoCardSaid : Prop := Claim7.holds Tryd.pinned (.plain (OpenSpec.upto vmStepsSpec)) vmStepsUptoCard

/-- THE SECOND FORM's CARD OF 'barographkeep.VmWords'. -/
def vmWordsUptoCard : Claim7 := { stood := { row := vmWordsUptoRow, standIns := [], harness := (true, "6c9f17d9b6981b8d4cced9fdcc540cae3b6f46f9896b889b78472aa0ba130d8b"), looks := false }, kinds := [], alts := [], laidByText := true, laidKinds := [.data], laidTests := true, laidLooks := .later }
def VmWordsUptoCardSaid : Prop := Claim7.holds Tryd.pinned (.plain (OpenSpec.upto vmWordsSpec)) vmWordsUptoCard

/-- THE SECOND FORM's CARD OF 'barographkeep.VmRenamed'. -/
def vmRenamedUptoCard : Claim7 := { stood := { row := vmRenamedUptoRow, standIns := [], harness := (true, "6c9f17d9b6981b8d4cced9fdcc540cae3b6f46f9896b889b78472aa0ba130d8b"), looks := false }, kinds := [], alts := [], laidByText := true, laidKinds := [.data], laidTests := true, laidLooks := .later }
def VmRenamedUptoCardSaid : Prop := Claim7.holds Tryd.pinned (.plain (OpenSpec.upto vmRenamedSpec)) vmRenamedUptoCard

/-- THE SECOND FORM's CARD OF 'barographkeep.VmMoved'. -/
def vmMovedUptoCard : Claim7 := { stood := { row := vmMovedUptoRow, standIns := [], harness := (true, "6c9f17d9b6981b8d4cced9fdcc540cae3b6f46f9896b889b78472aa0ba130d8b"), looks := false }, kinds := [], alts := [], laidByText := true, laidKinds := [.data], laidTests := true, laidLooks := .later }
def VmMovedUptoCardSaid : Prop := Claim7.holds Tryd.pinned (.plain (OpenSpec.upto vmMovedSpec)) vmMovedUptoCard

/-- THE SECOND FORM's CARD OF 'barographkeep.RunParts'. -/
def runPartsUptoCard : Claim7 := { stood := { row := runPartsUptoRow, standIns := [], harness := (true, "6c9f17d9b6981b8d4cced9fdcc540cae3b6f46f9896b889b78472aa0ba130d8b"), looks := false }, kinds := [], alts := [], laidByText := true, laidKinds := [.data], laidTests := true, laidLooks := .later }
def RunPartsUptoCardSaid : Prop := Claim7.holds Tryd.pinned (.plain (OpenSpec.upto runPartsSpec)) runPartsUptoCard

/-- THE SECOND FORM's CARD OF 'barographkeep.RunBetween'. -/
def runBetweenUptoCard : Claim7 := { stood := { row := runBetweenUptoRow, standIns := [], harness := (true, "6c9f17d9b6981b8d4cced9fdcc540cae3b6f46f9896b889b78472aa0ba130d8b"), looks := false }, kinds := [], alts := [], laidByText := true, laidKinds := [.data], laidTests := true, laidLooks := .later }
def RunBetweenUptoCardSaid : Prop := Claim7.holds Tryd.pinned (.plain (OpenSpec.upto runBetweenSpec)) runBetweenUptoCard

/-- THE SECOND FORM's CARD OF 'barographkeep.RunIdle'. -/
def runIdleUptoCard : Claim7 := { stood := { row := runIdleUptoRow, standIns := [], harness := (true, "6c9f17d9b6981b8d4cced9fdcc540cae3b6f46f9896b889b78472aa0ba130d8b"), looks := false }, kinds := [], alts := [], laidByText := true, laidKinds := [.data], laidTests := true, laidLooks := .later }
def RunIdleUptoCardSaid : Prop := Claim7.holds Tryd.pinned (.plain (OpenSpec.upto runIdleSpec)) runIdleUptoCard

/-- THE SECOND FORM's CARD OF 'barographkeep.RunAlone'. -/
def runAloneUptoCard : Claim7 := { stood := { row := runAloneUptoRow, standIns := [], harness := (true, "6c9f17d9b6981b8d4cced9fdcc540cae3b6f46f9896b889b78472aa0ba130d8b"), looks := false }, kinds := [], alts := [], laidByText := true, laidKinds := [.data], laidTests := true, laidLooks := .later }
def RunAloneUptoCardSaid : Prop := Claim7.holds Tryd.pinned (.plain (OpenSpec.upto runAloneSpec)) runAloneUptoCard
end Rows
end Go.Proofs.YtljdnbdmfhcmpaaDoor
