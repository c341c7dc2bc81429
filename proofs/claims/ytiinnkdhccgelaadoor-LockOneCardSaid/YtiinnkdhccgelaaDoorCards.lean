/-
  DERIVED. GIVEN WITH THE SEED: THE CARDS: each row of YtiinnkdhccgelaaDoorRows.lean that lists a variable, with what it lists TIED to the program's text (the seventh form; the later family's looks); each row that meets fmt, with fmt's text TOLD by the authors' own Lean function (tested against real Go, not proved from fmt's source: count such statements apart). THE CARD IS WHAT COUNTS. Prove the row's statement (the work); the ties are given (YtiinnkdhccgelaaDoorTie.lean); close each card by the builder's one call (the guide's Derived/Test/ToyasCard.lean, 'card_holds'). Laid BY PROGRAM, IN A SANDBOX (cutbox-door.mjs). By AI agents, Wed Nov 11 2026. No macro, syntax, notation, axiom, sorry.
-/
import Derived.Test.YtiinnkdhccgelaaDoorRows
import GoSem.ClaimSeven
namespace Go.Proofs.YtiinnkdhccgelaaDoor
namespace Rows

/-- THE TIED CARD OF 'barographtop.TopGuardSema'. -/
def topGuardSemaCard : Claim7 := { stood := { row := topGuardSemaRow, standIns := [], harness := (true, "1fcb8ae39ee0d56f25a603e219d27022c8adea2cce301ec8c21db3e6f2efa220"), looks := false }, kinds := [], alts := [], laidByText := true, laidKinds := [.data], laidTests := true, laidLooks := .later }
def TopGuardSemaCardSaid : Prop := Claim7.holds Tryd.pinned (.plain (OpenSpec.ofChange topGuardSemaSpec)) topGuardSemaCard

/-- THE TIED CARD OF 'barographtop.TopGuardLock'. -/
def topGuardLockCard : Claim7 := { stood := { row := topGuardLockRow, standIns := [], harness := (true, "1fcb8ae39ee0d56f25a603e219d27022c8adea2cce301ec8c21db3e6f2efa220"), looks := false }, kinds := [], alts := [], laidByText := true, laidKinds := [.data, .data, .data, .data], laidTests := true, laidLooks := .later }
def TopGuardLockCardSaid : Prop := Claim7.holds Tryd.pinned (.plain (OpenSpec.ofChange topGuardLockSpec)) topGuardLockCard

/-- THE TIED CARD OF 'barographkeep.RingOrder'. -/
def ringOrderCard : Claim7 := { stood := { row := ringOrderRow, standIns := [], harness := (true, "1fcb8ae39ee0d56f25a603e219d27022c8adea2cce301ec8c21db3e6f2efa220"), looks := false }, kinds := [], alts := [], laidByText := true, laidKinds := [.data], laidTests := true, laidLooks := .later }
def RingOrderCardSaid : Prop := Claim7.holds Tryd.pinned (.plain (OpenSpec.ofChange ringOrderSpec)) ringOrderCard

/-- THE TIED CARD OF 'barographkeep.RingFull'. -/
def ringFullCard : Claim7 := { stood := { row := ringFullRow, standIns := [], harness := (true, "1fcb8ae39ee0d56f25a603e219d27022c8adea2cce301ec8c21db3e6f2efa220"), looks := false }, kinds := [], alts := [], laidByText := true, laidKinds := [.data], laidTests := true, laidLooks := .later }
def RingFullCardSaid : Prop := Claim7.holds Tryd.pinned (.plain (OpenSpec.ofChange ringFullSpec)) ringFullCard

/-- THE TIED CARD OF 'barographkeep.RingTells'. -/
def ringTellsCard : Claim7 := { stood := { row := ringTellsRow, standIns := [], harness := (true, "1fcb8ae39ee0d56f25a603e219d27022c8adea2cce301ec8c21db3e6f2efa220"), looks := false }, kinds := [], alts := [], laidByText := true, laidKinds := [.data], laidTests := true, laidLooks := .later }
def RingTellsCardSaid : Prop := Claim7.holds Tryd.pinned (.plain (OpenSpec.ofChange ringTellsSpec)) ringTellsCard

/-- THE TIED CARD OF 'barographkeep.QueueLinear'. -/
def queueLinearCard : Claim7 := { stood := { row := queueLinearRow, standIns := [], harness := (true, "1fcb8ae39ee0d56f25a603e219d27022c8adea2cce301ec8c21db3e6f2efa220"), looks := false }, kinds := [], alts := [], laidByText := true, laidKinds := [.data], laidTests := true, laidLooks := .later }
def QueueLinearCardSaid : Prop := Claim7.holds Tryd.pinned (.plain (OpenSpec.ofChange queueLinearSpec)) queueLinearCard

/-- THE TIED CARD OF 'barographkeep.QueueTells'. -/
def queueTellsCard : Claim7 := { stood := { row := queueTellsRow, standIns := [], harness := (true, "1fcb8ae39ee0d56f25a603e219d27022c8adea2cce301ec8c21db3e6f2efa220"), looks := false }, kinds := [], alts := [], laidByText := true, laidKinds := [.data], laidTests := true, laidLooks := .later }
def QueueTellsCardSaid : Prop := Claim7.holds Tryd.pinned (.plain (OpenSpec.ofChange queueTellsSpec)) queueTellsCard

/-- THE TIED CARD OF 'barographkeep.QueueOrder'. -/
def queueOrderCard : Claim7 := { stood := { row := queueOrderRow, standIns := [], harness := (true, "1fcb8ae39ee0d56f25a603e219d27022c8adea2cce301ec8c21db3e6f2efa220"), looks := false }, kinds := [], alts := [], laidByText := true, laidKinds := [.data], laidTests := true, laidLooks := .later }
def QueueOrderCardSaid : Prop := Claim7.holds Tryd.pinned (.plain (OpenSpec.ofChange queueOrderSpec)) queueOrderCard

/-- THE TIED CARD OF 'barographkeep.StackLinear'. -/
def stackLinearCard : Claim7 := { stood := { row := stackLinearRow, standIns := [], harness := (true, "1fcb8ae39ee0d56f25a603e219d27022c8adea2cce301ec8c21db3e6f2efa220"), looks := false }, kinds := [], alts := [], laidByText := true, laidKinds := [.data], laidTests := true, laidLooks := .later }
def StackLinearCardSaid : Prop := Claim7.holds Tryd.pinned (.plain (OpenSpec.ofChange stackLinearSpec)) stackLinearCard

/-- THE TIED CARD OF 'barographkeep.StackAll'. -/
def stackAllCard : Claim7 := { stood := { row := stackAllRow, standIns := [], harness := (true, "1fcb8ae39ee0d56f25a603e219d27022c8adea2cce301ec8c21db3e6f2efa220"), looks := false }, kinds := [], alts := [], laidByText := true, laidKinds := [.data], laidTests := true, laidLooks := .later }
def StackAllCardSaid : Prop := Claim7.holds Tryd.pinned (.plain (OpenSpec.ofChange stackAllSpec)) stackAllCard

/-- THE TIED CARD OF 'barographkeep.StackTells'. -/
def stackTellsCard : Claim7 := { stood := { row := stackTellsRow, standIns := [], harness := (true, "1fcb8ae39ee0d56f25a603e219d27022c8adea2cce301ec8c21db3e6f2efa220"), looks := false }, kinds := [], alts := [], laidByText := true, laidKinds := [.data], laidTests := true, laidLooks := .later }
def StackTellsCardSaid : Prop := Claim7.holds Tryd.pinned (.plain (OpenSpec.ofChange stackTellsSpec)) stackTellsCard

/-- THE TIED CARD OF 'barographkeep.LockOne'. -/
def lockOneCard : Claim7 := { stood := { row := lockOneRow, standIns := [], harness := (true, "1fcb8ae39ee0d56f25a603e219d27022c8adea2cce301ec8c21db3e6f2efa220"), looks := false }, kinds := [], alts := [], laidByText := true, laidKinds := [.data, .data, .data, .data], laidTests := true, laidLooks := .later }
def LockOneCardSaid : Prop := Claim7.holds Tryd.pinned (.plain (OpenSpec.ofChange lockOneSpec)) lockOneCard

/-- THE TIED CARD OF 'barographkeep.LockEnds'. -/
def lockEndsCard : Claim7 := { stood := { row := lockEndsRow, standIns := [], harness := (true, "1fcb8ae39ee0d56f25a603e219d27022c8adea2cce301ec8c21db3e6f2efa220"), looks := false }, kinds := [], alts := [], laidByText := true, laidKinds := [.data, .data, .data, .data], laidTests := true, laidLooks := .later }
def LockEndsCardSaid : Prop := Claim7.holds Tryd.pinned (.plain (OpenSpec.ofChange lockEndsSpec)) lockEndsCard

/-- THE TIED CARD OF 'barographkeep.LockAlone'. -/
def lockAloneCard : Claim7 := { stood := { row := lockAloneRow, standIns := [], harness := (true, "1fcb8ae39ee0d56f25a603e219d27022c8adea2cce301ec8c21db3e6f2efa220"), looks := false }, kinds := [], alts := [], laidByText := true, laidKinds := [.data, .data, .data, .data], laidTests := true, laidLooks := .later }
def LockAloneCardSaid : Prop := Claim7.holds Tryd.pinned (.plain (OpenSpec.ofChange lockAloneSpec)) lockAloneCard

/-- THE SECOND FORM's CARD OF 'barographtop.TopGuardSema'. -/
def topGuardSemaUptoCard : Claim7 := { stood := { row := topGuardSemaUptoRow, standIns := [], harness := (true, "1fcb8ae39ee0d56f25a603e219d27022c8adea2cce301ec8c21db3e6f2efa220"), looks := false }, kinds := [], alts := [], laidByText := true, laidKinds := [.data], laidTests := true, laidLooks := .later }
def TopGuardSemaUptoCardSaid : Prop := Claim7.holds Tryd.pinned (.plain (OpenSpec.upto topGuardSemaSpec)) topGuardSemaUptoCard

/-- THE SECOND FORM's CARD OF 'barographtop.TopGuardLock'. -/
def topGuardLockUptoCard : Claim7 := { stood := { row := topGuardLockUptoRow, standIns := [], harness := (true, "1fcb8ae39ee0d56f25a603e219d27022c8adea2cce301ec8c21db3e6f2efa220"), looks := false }, kinds := [], alts := [], laidByText := true, laidKinds := [.data, .data, .data, .data], laidTests := true, laidLooks := .later }
def TopGuardLockUptoCardSaid : Prop := Claim7.holds Tryd.pinned (.plain (OpenSpec.upto topGuardLockSpec)) topGuardLockUptoCard

/-- THE SECOND FORM's CARD OF 'barographkeep.RingOrder'. -/
def ringOrderUptoCard : Claim7 := { stood := { row := ringOrderUptoRow, standIns := [], harness := (true, "1fcb8ae39ee0d56f25a603e219d27022c8adea2cce301ec8c21db3e6f2efa220"), looks := false }, kinds := [], alts := [], laidByText := true, laidKinds := [.data], laidTests := true, laidLooks := .later }
def RingOrderUptoCardSaid : Prop := Claim7.holds Tryd.pinned (.plain (OpenSpec.upto ringOrderSpec)) ringOrderUptoCard

/-- THE SECOND FORM's CARD OF 'barographkeep.RingFull'. -/
def ringFullUptoCard : Claim7 := { stood := { row := ringFullUptoRow, standIns := [], harness := (true, "1fcb8ae39ee0d56f25a603e219d27022c8adea2cce301ec8c21db3e6f2efa220"), looks := false }, kinds := [], alts := [], laidByText := true, laidKinds := [.data], laidTests := true, laidLooks := .later }
def RingFullUptoCardSaid : Prop := Claim7.holds Tryd.pinned (.plain (OpenSpec.upto ringFullSpec)) ringFullUptoCard

/-- THE SECOND FORM's CARD OF 'barographkeep.RingTells'. -/
def ringTellsUptoCard : Claim7 := { stood := { row := ringTellsUptoRow, standIns := [], harness := (true, "1fcb8ae39ee0d56f25a603e219d27022c8adea2cce301ec8c21db3e6f2efa220"), looks := false }, kinds := [], alts := [], laidByText := true, laidKinds := [.data], laidTests := true, laidLooks := .later }
def RingTellsUptoCardSaid : Prop := Claim7.holds Tryd.pinned (.plain (OpenSpec.upto ringTellsSpec)) ringTellsUptoCard

/-- THE SECOND FORM's CARD OF 'barographkeep.QueueLinear'. -/
def queueLinearUptoCard : Claim7 := { stood := { row := queueLinearUptoRow, standIns := [], harness := (true, "1fcb8ae39ee0d56f25a603e219d27022c8adea2cce301ec8c21db3e6f2efa220"), looks := false }, kinds := [], alts := [], laidByText := true, laidKinds := [.data], laidTests := true, laidLooks := .later }
def QueueLinearUptoCardSaid : Prop := Claim7.holds Tryd.pinned (.plain (OpenSpec.upto queueLinearSpec)) queueLinearUptoCard

/-- THE SECOND FORM's CARD OF 'barographkeep.QueueTells'. -/
def queueTellsUptoCard : Claim7 := { stood := { row := queueTellsUptoRow, standIns := [], harness := (true, "1fcb8ae39ee0d56f25a603e219d27022c8adea2cce301ec8c21db3e6f2efa220"), looks := false }, kinds := [], alts := [], laidByText := true, laidKinds := [.data], laidTests := true, laidLooks := .later }
def QueueTellsUptoCardSaid : Prop := Claim7.holds Tryd.pinned (.plain (OpenSpec.upto queueTellsSpec)) queueTellsUptoCard

/-- THE SECOND FORM's CARD OF 'barographkeep.QueueOrder'. -/
def queueOrderUptoCard : Claim7 := { stood := { row := queueOrderUptoRow, standIns := [], harness := (true, "1fcb8ae39ee0d56f25a603e219d27022c8adea2cce301ec8c21db3e6f2efa220"), looks := false }, kinds := [], alts := [], laidByText := true, laidKinds := [.data], laidTests := true, laidLooks := .later }
def QueueOrderUptoCardSaid : Prop := Claim7.holds Tryd.pinned (.plain (OpenSpec.upto queueOrderSpec)) queueOrderUptoCard

/-- THE SECOND FORM's CARD OF 'barographkeep.StackLinear'. -/
def stackLinearUptoCard : Claim7 := { stood := { row := stackLinearUptoRow, standIns := [], harness := (true, "1fcb8ae39ee0d56f25a603e219d27022c8adea2cce301ec8c21db3e6f2efa220"), looks := false }, kinds := [], alts := [], laidByText := true, laidKinds := [.data], laidTests := true, laidLooks := .later }
def StackLinearUptoCardSaid : Prop := Claim7.holds Tryd.pinned (.plain (OpenSpec.upto stackLinearSpec)) stackLinearUptoCard

/-- THE SECOND FORM's CARD OF 'barographkeep.StackAll'. -/
def stackAllUptoCard : Claim7 := { stood := { row := stackAllUptoRow, standIns := [], harness := (true, "1fcb8ae39ee0d56f25a603e219d27022c8adea2cce301ec8c21db3e6f2efa220"), looks := false }, kinds := [], alts := [], laidByText := true, laidKinds := [.data], laidTests := true, laidLooks := .later }
def StackAllUptoCardSaid : Prop := Claim7.holds Tryd.pinned (.plain (OpenSpec.upto stackAllSpec)) stackAllUptoCard

/-- THE SECOND FORM's CARD OF 'barographkeep.StackTells'. -/
def stackTellsUptoCard : Claim7 := { stood := { row := stackTellsUptoRow, standIns := [], harness := (true, "1fcb8ae39ee0d56f25a603e219d27022c8adea2cce301ec8c21db3e6f2efa220"), looks := false }, kinds := [], alts := [], laidByText := true, laidKinds := [.data], laidTests := true, laidLooks := .later }
def StackTellsUptoCardSaid : Prop := Claim7.holds Tryd.pinned (.plain (OpenSpec.upto stackTellsSpec)) stackTellsUptoCard

/-- THE SECOND FORM's CARD OF 'barographkeep.LockOne'. -/
def lockOneUptoCard : Claim7 := { stood := { row := lockOneUptoRow, standIns := [], harness := (true, "1fcb8ae39ee0d56f25a603e219d27022c8adea2cce301ec8c21db3e6f2efa220"), looks := false }, kinds := [], alts := [], laidByText := true, laidKinds := [.data, .data, .data, .data], laidTests := true, laidLooks := .later }
def LockOneUptoCardSaid : Prop := Claim7.holds Tryd.pinned (.plain (OpenSpec.upto lockOneSpec)) lockOneUptoCard

/-- THE SECOND FORM's CARD OF 'barographkeep.LockEnds'. -/
def lockEndsUptoCard : Claim7 := { stood := { row := lockEndsUptoRow, standIns := [], harness := (true, "1fcb8ae39ee0d56f25a603e219d27022c8adea2cce301ec8c21db3e6f2efa220"), looks := false }, kinds := [], alts := [], laidByText := true, laidKinds := [.data, .data, .data, .data], laidTests := true, laidLooks := .later }
def LockEndsUptoCardSaid : Prop := Claim7.holds Tryd.pinned (.plain (OpenSpec.upto lockEndsSpec)) lockEndsUptoCard

/-- THE SECOND FORM's CARD OF 'barographkeep.LockAlone'. -/
def lockAloneUptoCard : Claim7 := { stood := { row := lockAloneUptoRow, standIns := [], harness := (true, "1fcb8ae39ee0d56f25a603e219d27022c8adea2cce301ec8c21db3e6f2efa220"), looks := false }, kinds := [], alts := [], laidByText := true, laidKinds := [.data, .data, .data, .data], laidTests := true, laidLooks := .later }
def LockAloneUptoCardSaid : Prop := Claim7.holds Tryd.pinned (.plain (OpenSpec.upto lockAloneSpec)) lockAloneUptoCard
end Rows
end Go.Proofs.YtiinnkdhccgelaaDoor
