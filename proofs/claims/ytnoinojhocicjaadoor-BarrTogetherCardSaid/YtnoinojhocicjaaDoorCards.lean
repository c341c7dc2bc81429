/-
  DERIVED. GIVEN WITH THE SEED: THE CARDS: each row of YtnoinojhocicjaaDoorRows.lean that lists a variable, with what it lists TIED to the program's text (the seventh form; the later family's looks); each row that meets fmt, with fmt's text TOLD by the authors' own Lean function (tested against real Go, not proved from fmt's source: count such statements apart). THE CARD IS WHAT COUNTS. Prove the row's statement (the work); the ties are given (YtnoinojhocicjaaDoorTie.lean); close each card by the builder's one call (the guide's Derived/Test/ToyasCard.lean, 'card_holds'). Laid BY PROGRAM, IN A SANDBOX (cutbox-door.mjs). By AI agents, Wed Nov 11 2026. No macro, syntax, notation, axiom, sorry.
-/
import Derived.Test.YtnoinojhocicjaaDoorRows
import GoSem.ClaimSeven
namespace Go.Proofs.YtnoinojhocicjaaDoor
namespace Rows

/-- THE TIED CARD OF 'barographkeep.OnceOne'. -/
def onceOneCard : Claim7 := { stood := { row := onceOneRow, standIns := [], harness := (true, "6727914f5e6c8c2d2147d8bcaff3c41dfedad6c345a517ade09ffa888d6577a0"), looks := false }, kinds := [], alts := [], laidByText := true, laidKinds := [.data], laidTests := true, laidLooks := .later }
def OnceOneCardSaid : Prop := Claim7.holds Tryd.pinned (.plain (OpenSpec.ofChange onceOneSpec)) onceOneCard

/-- THE TIED CARD OF 'barographkeep.OnceFirst'. -/
def onceFirstCard : Claim7 := { stood := { row := onceFirstRow, standIns := [], harness := (true, "6727914f5e6c8c2d2147d8bcaff3c41dfedad6c345a517ade09ffa888d6577a0"), looks := false }, kinds := [], alts := [], laidByText := true, laidKinds := [.data], laidTests := true, laidLooks := .later }
def OnceFirstCardSaid : Prop := Claim7.holds Tryd.pinned (.plain (OpenSpec.ofChange onceFirstSpec)) onceFirstCard

/-- THE TIED CARD OF 'barographkeep.ConsOne'. -/
def consOneCard : Claim7 := { stood := { row := consOneRow, standIns := [], harness := (true, "6727914f5e6c8c2d2147d8bcaff3c41dfedad6c345a517ade09ffa888d6577a0"), looks := false }, kinds := [], alts := [], laidByText := true, laidKinds := [.data], laidTests := true, laidLooks := .later }
def ConsOneCardSaid : Prop := Claim7.holds Tryd.pinned (.plain (OpenSpec.ofChange consOneSpec)) consOneCard

/-- THE TIED CARD OF 'barographkeep.ConsFirst'. -/
def consFirstCard : Claim7 := { stood := { row := consFirstRow, standIns := [], harness := (true, "6727914f5e6c8c2d2147d8bcaff3c41dfedad6c345a517ade09ffa888d6577a0"), looks := false }, kinds := [], alts := [], laidByText := true, laidKinds := [.data], laidTests := true, laidLooks := .later }
def ConsFirstCardSaid : Prop := Claim7.holds Tryd.pinned (.plain (OpenSpec.ofChange consFirstSpec)) consFirstCard

/-- THE TIED CARD OF 'barographkeep.CountLinear'. -/
def countLinearCard : Claim7 := { stood := { row := countLinearRow, standIns := [], harness := (true, "6727914f5e6c8c2d2147d8bcaff3c41dfedad6c345a517ade09ffa888d6577a0"), looks := false }, kinds := [], alts := [], laidByText := true, laidKinds := [.data], laidTests := true, laidLooks := .later }
def CountLinearCardSaid : Prop := Claim7.holds Tryd.pinned (.plain (OpenSpec.ofChange countLinearSpec)) countLinearCard

/-- THE TIED CARD OF 'barographkeep.CountAll'. -/
def countAllCard : Claim7 := { stood := { row := countAllRow, standIns := [], harness := (true, "6727914f5e6c8c2d2147d8bcaff3c41dfedad6c345a517ade09ffa888d6577a0"), looks := false }, kinds := [], alts := [], laidByText := true, laidKinds := [.data], laidTests := true, laidLooks := .later }
def CountAllCardSaid : Prop := Claim7.holds Tryd.pinned (.plain (OpenSpec.ofChange countAllSpec)) countAllCard

/-- THE TIED CARD OF 'barographkeep.CountTells'. -/
def countTellsCard : Claim7 := { stood := { row := countTellsRow, standIns := [], harness := (true, "6727914f5e6c8c2d2147d8bcaff3c41dfedad6c345a517ade09ffa888d6577a0"), looks := false }, kinds := [], alts := [], laidByText := true, laidKinds := [.data], laidTests := true, laidLooks := .later }
def CountTellsCardSaid : Prop := Claim7.holds Tryd.pinned (.plain (OpenSpec.ofChange countTellsSpec)) countTellsCard

/-- THE TIED CARD OF 'barographkeep.RwlApart'. -/
def rwlApartCard : Claim7 := { stood := { row := rwlApartRow, standIns := [], harness := (true, "6727914f5e6c8c2d2147d8bcaff3c41dfedad6c345a517ade09ffa888d6577a0"), looks := false }, kinds := [], alts := [], laidByText := true, laidKinds := [.data], laidTests := true, laidLooks := .later }
def RwlApartCardSaid : Prop := Claim7.holds Tryd.pinned (.plain (OpenSpec.ofChange rwlApartSpec)) rwlApartCard

/-- THE TIED CARD OF 'barographkeep.RwlShares'. -/
def rwlSharesCard : Claim7 := { stood := { row := rwlSharesRow, standIns := [], harness := (true, "6727914f5e6c8c2d2147d8bcaff3c41dfedad6c345a517ade09ffa888d6577a0"), looks := false }, kinds := [], alts := [], laidByText := true, laidKinds := [.data], laidTests := true, laidLooks := .later }
def RwlSharesCardSaid : Prop := Claim7.holds Tryd.pinned (.plain (OpenSpec.ofChange rwlSharesSpec)) rwlSharesCard

/-- THE TIED CARD OF 'barographkeep.BarrTogether'. -/
def barrTogetherCard : Claim7 := { stood := { row := barrTogetherRow, standIns := [], harness := (true, "6727914f5e6c8c2d2147d8bcaff3c41dfedad6c345a517ade09ffa888d6577a0"), looks := false }, kinds := [], alts := [], laidByText := true, laidKinds := [.data], laidTests := true, laidLooks := .later }
def BarrTogetherCardSaid : Prop := Claim7.holds Tryd.pinned (.plain (OpenSpec.ofChange barrTogetherSpec)) barrTogetherCard

/-- THE TIED CARD OF 'barographkeep.BarrEnds'. -/
def barrEndsCard : Claim7 := { stood := { row := barrEndsRow, standIns := [], harness := (true, "6727914f5e6c8c2d2147d8bcaff3c41dfedad6c345a517ade09ffa888d6577a0"), looks := false }, kinds := [], alts := [], laidByText := true, laidKinds := [.data], laidTests := true, laidLooks := .later }
def BarrEndsCardSaid : Prop := Claim7.holds Tryd.pinned (.plain (OpenSpec.ofChange barrEndsSpec)) barrEndsCard

/-- THE TIED CARD OF 'barographkeep.SemaMost'. -/
def semaMostCard : Claim7 := { stood := { row := semaMostRow, standIns := [], harness := (true, "6727914f5e6c8c2d2147d8bcaff3c41dfedad6c345a517ade09ffa888d6577a0"), looks := false }, kinds := [], alts := [], laidByText := true, laidKinds := [.data], laidTests := true, laidLooks := .later }
def SemaMostCardSaid : Prop := Claim7.holds Tryd.pinned (.plain (OpenSpec.ofChange semaMostSpec)) semaMostCard

/-- THE TIED CARD OF 'barographkeep.SemaEnds'. -/
def semaEndsCard : Claim7 := { stood := { row := semaEndsRow, standIns := [], harness := (true, "6727914f5e6c8c2d2147d8bcaff3c41dfedad6c345a517ade09ffa888d6577a0"), looks := false }, kinds := [], alts := [], laidByText := true, laidKinds := [.data], laidTests := true, laidLooks := .later }
def SemaEndsCardSaid : Prop := Claim7.holds Tryd.pinned (.plain (OpenSpec.ofChange semaEndsSpec)) semaEndsCard

/-- THE TIED CARD OF 'barographkeep.SemaFull'. -/
def semaFullCard : Claim7 := { stood := { row := semaFullRow, standIns := [], harness := (true, "6727914f5e6c8c2d2147d8bcaff3c41dfedad6c345a517ade09ffa888d6577a0"), looks := false }, kinds := [], alts := [], laidByText := true, laidKinds := [.data], laidTests := true, laidLooks := .later }
def SemaFullCardSaid : Prop := Claim7.holds Tryd.pinned (.plain (OpenSpec.ofChange semaFullSpec)) semaFullCard

/-- THE SECOND FORM's CARD OF 'barographkeep.OnceOne'. -/
def onceOneUptoCard : Claim7 := { stood := { row := onceOneUptoRow, standIns := [], harness := (true, "6727914f5e6c8c2d2147d8bcaff3c41dfedad6c345a517ade09ffa888d6577a0"), looks := false }, kinds := [], alts := [], laidByText := true, laidKinds := [.data], laidTests := true, laidLooks := .later }
def OnceOneUptoCardSaid : Prop := Claim7.holds Tryd.pinned (.plain (OpenSpec.upto onceOneSpec)) onceOneUptoCard

/-- THE SECOND FORM's CARD OF 'barographkeep.OnceFirst'. -/
def onceFirstUptoCard : Claim7 := { stood := { row := onceFirstUptoRow, standIns := [], harness := (true, "6727914f5e6c8c2d2147d8bcaff3c41dfedad6c345a517ade09ffa888d6577a0"), looks := false }, kinds := [], alts := [], laidByText := true, laidKinds := [.data], laidTests := true, laidLooks := .later }
def OnceFirstUptoCardSaid : Prop := Claim7.holds Tryd.pinned (.plain (OpenSpec.upto onceFirstSpec)) onceFirstUptoCard

/-- THE SECOND FORM's CARD OF 'barographkeep.ConsOne'. -/
def consOneUptoCard : Claim7 := { stood := { row := consOneUptoRow, standIns := [], harness := (true, "6727914f5e6c8c2d2147d8bcaff3c41dfedad6c345a517ade09ffa888d6577a0"), looks := false }, kinds := [], alts := [], laidByText := true, laidKinds := [.data], laidTests := true, laidLooks := .later }
def ConsOneUptoCardSaid : Prop := Claim7.holds Tryd.pinned (.plain (OpenSpec.upto consOneSpec)) consOneUptoCard

/-- THE SECOND FORM's CARD OF 'barographkeep.ConsFirst'. -/
def consFirstUptoCard : Claim7 := { stood := { row := consFirstUptoRow, standIns := [], harness := (true, "6727914f5e6c8c2d2147d8bcaff3c41dfedad6c345a517ade09ffa888d6577a0"), looks := false }, kinds := [], alts := [], laidByText := true, laidKinds := [.data], laidTests := true, laidLooks := .later }
def ConsFirstUptoCardSaid : Prop := Claim7.holds Tryd.pinned (.plain (OpenSpec.upto consFirstSpec)) consFirstUptoCard

/-- THE SECOND FORM's CARD OF 'barographkeep.CountLinear'. -/
def countLinearUptoCard : Claim7 := { stood := { row := countLinearUptoRow, standIns := [], harness := (true, "6727914f5e6c8c2d2147d8bcaff3c41dfedad6c345a517ade09ffa888d6577a0"), looks := false }, kinds := [], alts := [], laidByText := true, laidKinds := [.data], laidTests := true, laidLooks := .later }
def CountLinearUptoCardSaid : Prop := Claim7.holds Tryd.pinned (.plain (OpenSpec.upto countLinearSpec)) countLinearUptoCard

/-- THE SECOND FORM's CARD OF 'barographkeep.CountAll'. -/
def countAllUptoCard : Claim7 := { stood := { row := countAllUptoRow, standIns := [], harness := (true, "6727914f5e6c8c2d2147d8bcaff3c41dfedad6c345a517ade09ffa888d6577a0"), looks := false }, kinds := [], alts := [], laidByText := true, laidKinds := [.data], laidTests := true, laidLooks := .later }
def CountAllUptoCardSaid : Prop := Claim7.holds Tryd.pinned (.plain (OpenSpec.upto countAllSpec)) countAllUptoCard

/-- THE SECOND FORM's CARD OF 'barographkeep.CountTells'. -/
def countTellsUptoCard : Claim7 := { stood := { row := countTellsUptoRow, standIns := [], harness := (true, "6727914f5e6c8c2d2147d8bcaff3c41dfedad6c345a517ade09ffa888d6577a0"), looks := false }, kinds := [], alts := [], laidByText := true, laidKinds := [.data], laidTests := true, laidLooks := .later }
def CountTellsUptoCardSaid : Prop := Claim7.holds Tryd.pinned (.plain (OpenSpec.upto countTellsSpec)) countTellsUptoCard

/-- THE SECOND FORM's CARD OF 'barographkeep.RwlApart'. -/
def rwlApartUptoCard : Claim7 := { stood := { row := rwlApartUptoRow, standIns := [], harness := (true, "6727914f5e6c8c2d2147d8bcaff3c41dfedad6c345a517ade09ffa888d6577a0"), looks := false }, kinds := [], alts := [], laidByText := true, laidKinds := [.data], laidTests := true, laidLooks := .later }
def RwlApartUptoCardSaid : Prop := Claim7.holds Tryd.pinned (.plain (OpenSpec.upto rwlApartSpec)) rwlApartUptoCard

/-- THE SECOND FORM's CARD OF 'barographkeep.RwlShares'. -/
def rwlSharesUptoCard : Claim7 := { stood := { row := rwlSharesUptoRow, standIns := [], harness := (true, "6727914f5e6c8c2d2147d8bcaff3c41dfedad6c345a517ade09ffa888d6577a0"), looks := false }, kinds := [], alts := [], laidByText := true, laidKinds := [.data], laidTests := true, laidLooks := .later }
def RwlSharesUptoCardSaid : Prop := Claim7.holds Tryd.pinned (.plain (OpenSpec.upto rwlSharesSpec)) rwlSharesUptoCard

/-- THE SECOND FORM's CARD OF 'barographkeep.BarrTogether'. -/
def barrTogetherUptoCard : Claim7 := { stood := { row := barrTogetherUptoRow, standIns := [], harness := (true, "6727914f5e6c8c2d2147d8bcaff3c41dfedad6c345a517ade09ffa888d6577a0"), looks := false }, kinds := [], alts := [], laidByText := true, laidKinds := [.data], laidTests := true, laidLooks := .later }
def BarrTogetherUptoCardSaid : Prop := Claim7.holds Tryd.pinned (.plain (OpenSpec.upto barrTogetherSpec)) barrTogetherUptoCard

/-- THE SECOND FORM's CARD OF 'barographkeep.BarrEnds'. -/
def barrEndsUptoCard : Claim7 := { stood := { row := barrEndsUptoRow, standIns := [], harness := (true, "6727914f5e6c8c2d2147d8bcaff3c41dfedad6c345a517ade09ffa888d6577a0"), looks := false }, kinds := [], alts := [], laidByText := true, laidKinds := [.data], laidTests := true, laidLooks := .later }
def BarrEndsUptoCardSaid : Prop := Claim7.holds Tryd.pinned (.plain (OpenSpec.upto barrEndsSpec)) barrEndsUptoCard

/-- THE SECOND FORM's CARD OF 'barographkeep.SemaMost'. -/
def semaMostUptoCard : Claim7 := { stood := { row := semaMostUptoRow, standIns := [], harness := (true, "6727914f5e6c8c2d2147d8bcaff3c41dfedad6c345a517ade09ffa888d6577a0"), looks := false }, kinds := [], alts := [], laidByText := true, laidKinds := [.data], laidTests := true, laidLooks := .later }
def SemaMostUptoCardSaid : Prop := Claim7.holds Tryd.pinned (.plain (OpenSpec.upto semaMostSpec)) semaMostUptoCard

/-- THE SECOND FORM's CARD OF 'barographkeep.SemaEnds'. -/
def semaEndsUptoCard : Claim7 := { stood := { row := semaEndsUptoRow, standIns := [], harness := (true, "6727914f5e6c8c2d2147d8bcaff3c41dfedad6c345a517ade09ffa888d6577a0"), looks := false }, kinds := [], alts := [], laidByText := true, laidKinds := [.data], laidTests := true, laidLooks := .later }
def SemaEndsUptoCardSaid : Prop := Claim7.holds Tryd.pinned (.plain (OpenSpec.upto semaEndsSpec)) semaEndsUptoCard

/-- THE SECOND FORM's CARD OF 'barographkeep.SemaFull'. -/
def semaFullUptoCard : Claim7 := { stood := { row := semaFullUptoRow, standIns := [], harness := (true, "6727914f5e6c8c2d2147d8bcaff3c41dfedad6c345a517ade09ffa888d6577a0"), looks := false }, kinds := [], alts := [], laidByText := true, laidKinds := [.data], laidTests := true, laidLooks := .later }
def SemaFullUptoCardSaid : Prop := Claim7.holds Tryd.pinned (.plain (OpenSpec.upto semaFullSpec)) semaFullUptoCard
end Rows
end Go.Proofs.YtnoinojhocicjaaDoor
