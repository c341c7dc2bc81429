/-
  NARROWER THAN 'FOR EVERY INPUT', by the rows' own cells (each row's printed sentence says how): VmSteps: laid · VmWords: laid · VmRenamed: laid · VmMoved: laid · RunParts: laid · RunBetween: laid · RunIdle: laid · RunAlone: laid.
  DERIVED. THE GIVEN ROWS OF THIS SEAT. 8 by the template 'for every input the law returns true; each argument reads behind the call as it read before'; 0 by the template 'total and deterministic' (their statements: YtljdnbdmfhcmpaaDoorTotals.lean).
  GIVEN WITH THE SEED: the statements are not yours to turn. If you find one false, say at which input.
  Laid BY PROGRAM, IN A SANDBOX (cutbox-rows.mjs): the forced cells as the released guide's own fill.sh prints them over the translation b3162f2d016b31ef… (all of the seat's roots in one cut). By AI agents, Wed Nov 11 2026. No macro, syntax, notation, axiom, sorry.
-/
import Derived.Test.YtljdnbdmfhcmpaaDoorChecked
import GoSem.Claim
import GoSem.ClaimJoined
import GoSem.ClaimMapViews
import Derived.JoinedTies
import Derived.KernelRfl
namespace Go.Proofs.YtljdnbdmfhcmpaaDoor
/- THE CELL 'sum', in the pinned program and in every row, IS THE sha256 OF THE DUMP (.gsa) THAT YtljdnbdmfhcmpaaDoorProg.lean LOADS. Nothing in Lean hashes anything: it is a label: what it is worth is what the hold of that sum in a sandbox is worth. -/
noncomputable def Tryd.pinned : Pinned := { name := "ytljdnbdmfhcmpaadoor", sum := "b3162f2d016b31efe5cccc1d9c7416026963c61b0bf23f78a5bf4c89cea65121", checked := Tryd.checked }
namespace Rows
def none {H : Type} : Left H := { results := [], args := [] }

/- WHAT THE LISTED PACKAGE-LEVEL VARIABLES READ AS WHEN THE CALL BEGINS. Each datum BY PROGRAM (the guide's laid-datum.mjs) off the statement by which the dump's own 'gosem.cut.vars' lays the variable. In a bare row this is a premise. The card (YtljdnbdmfhcmpaaDoorCards.lean) ties it to the program's text. -/
def laid_barograph_vm_shapes {H : Type} : DataW H := .agg [.lit (.string []), .lit (.string [114, 110, 45, 45]), .lit (.string [114, 114, 45, 45]), .lit (.string [114, 114, 114, 45]), .lit (.string [114, 114, 114, 45]), .lit (.string [114, 114, 114, 45]), .lit (.string [114, 114, 114, 45]), .lit (.string [114, 114, 114, 45]), .lit (.string [114, 114, 114, 45]), .lit (.string [114, 114, 114, 45]), .lit (.string [112, 45, 45, 45]), .lit (.string [114, 112, 45, 45]), .lit (.string [114, 112, 45, 45]), .lit (.string [114, 114, 110, 45]), .lit (.string [114, 114, 110, 45]), .lit (.string [114, 114, 110, 114]), .lit (.string [114, 45, 45, 45]), .lit (.string [45, 45, 45, 45])]

/-- 'barographkeep.VmSteps': WHATEVER THE INPUT: true; the input reads as it did. -/
def vmStepsSpec : ChangeSpec := { name := "vmSteps", fn := fun _ => fun
  | [d1, d2, d3, d4, d5] => { results := [.lit (.bool true)], args := [d1, d2, d3, d4, d5] }
  | _ => none }
def vmStepsRow : OpenClaim := { program := "ytljdnbdmfhcmpaadoor", sum := "b3162f2d016b31efe5cccc1d9c7416026963c61b0bf23f78a5bf4c89cea65121", func := "barograph/barographkeep.VmSteps", spec := "vmSteps", named := ["barograph/vm.shapes"], apart := false, laid := [("barograph/vm.shapes", laid_barograph_vm_shapes)] }
def VmStepsSaid : Prop := vmStepsRow.holds Tryd.pinned (OpenSpec.ofChange vmStepsSpec)

/-- ITS FALSE NEIGHBOUR: 'it returns false'. Refute it at one input. -/
def vmStepsWrong : ChangeSpec := { name := "vmSteps", fn := fun _ => fun
  | [d1, d2, d3, d4, d5] => { results := [.lit (.bool false)], args := [d1, d2, d3, d4, d5] }
  | _ => none }
def VmStepsWrongFalsely : Prop := vmStepsRow.holds Tryd.pinned (OpenSpec.ofChange vmStepsWrong)

/-- 'barographkeep.VmWords': WHATEVER THE INPUT: true; the input reads as it did. -/
def vmWordsSpec : ChangeSpec := { name := "vmWords", fn := fun _ => fun
  | [d1, d2, d3] => { results := [.lit (.bool true)], args := [d1, d2, d3] }
  | _ => none }
def vmWordsRow : OpenClaim := { program := "ytljdnbdmfhcmpaadoor", sum := "b3162f2d016b31efe5cccc1d9c7416026963c61b0bf23f78a5bf4c89cea65121", func := "barograph/barographkeep.VmWords", spec := "vmWords", named := ["barograph/vm.shapes"], apart := false, laid := [("barograph/vm.shapes", laid_barograph_vm_shapes)] }
def VmWordsSaid : Prop := vmWordsRow.holds Tryd.pinned (OpenSpec.ofChange vmWordsSpec)

/-- ITS FALSE NEIGHBOUR: 'it returns false'. Refute it at one input. -/
def vmWordsWrong : ChangeSpec := { name := "vmWords", fn := fun _ => fun
  | [d1, d2, d3] => { results := [.lit (.bool false)], args := [d1, d2, d3] }
  | _ => none }
def VmWordsWrongFalsely : Prop := vmWordsRow.holds Tryd.pinned (OpenSpec.ofChange vmWordsWrong)

/-- 'barographkeep.VmRenamed': WHATEVER THE INPUT: true; the input reads as it did. -/
def vmRenamedSpec : ChangeSpec := { name := "vmRenamed", fn := fun _ => fun
  | [d1, d2, d3, d4] => { results := [.lit (.bool true)], args := [d1, d2, d3, d4] }
  | _ => none }
def vmRenamedRow : OpenClaim := { program := "ytljdnbdmfhcmpaadoor", sum := "b3162f2d016b31efe5cccc1d9c7416026963c61b0bf23f78a5bf4c89cea65121", func := "barograph/barographkeep.VmRenamed", spec := "vmRenamed", unfollowed := true, recurses := true, named := ["barograph/vm.shapes"], apart := false, laid := [("barograph/vm.shapes", laid_barograph_vm_shapes)] }
def VmRenamedSaid : Prop := vmRenamedRow.holds Tryd.pinned (OpenSpec.ofChange vmRenamedSpec)

/-- ITS FALSE NEIGHBOUR: 'it returns false'. Refute it at one input. -/
def vmRenamedWrong : ChangeSpec := { name := "vmRenamed", fn := fun _ => fun
  | [d1, d2, d3, d4] => { results := [.lit (.bool false)], args := [d1, d2, d3, d4] }
  | _ => none }
def VmRenamedWrongFalsely : Prop := vmRenamedRow.holds Tryd.pinned (OpenSpec.ofChange vmRenamedWrong)

/-- 'barographkeep.VmMoved': WHATEVER THE INPUT: true; the input reads as it did. -/
def vmMovedSpec : ChangeSpec := { name := "vmMoved", fn := fun _ => fun
  | [d1, d2, d3, d4, d5] => { results := [.lit (.bool true)], args := [d1, d2, d3, d4, d5] }
  | _ => none }
def vmMovedRow : OpenClaim := { program := "ytljdnbdmfhcmpaadoor", sum := "b3162f2d016b31efe5cccc1d9c7416026963c61b0bf23f78a5bf4c89cea65121", func := "barograph/barographkeep.VmMoved", spec := "vmMoved", named := ["barograph/vm.shapes"], apart := false, laid := [("barograph/vm.shapes", laid_barograph_vm_shapes)] }
def VmMovedSaid : Prop := vmMovedRow.holds Tryd.pinned (OpenSpec.ofChange vmMovedSpec)

/-- ITS FALSE NEIGHBOUR: 'it returns false'. Refute it at one input. -/
def vmMovedWrong : ChangeSpec := { name := "vmMoved", fn := fun _ => fun
  | [d1, d2, d3, d4, d5] => { results := [.lit (.bool false)], args := [d1, d2, d3, d4, d5] }
  | _ => none }
def VmMovedWrongFalsely : Prop := vmMovedRow.holds Tryd.pinned (OpenSpec.ofChange vmMovedWrong)

/-- 'barographkeep.RunParts': WHATEVER THE INPUT: true; the input reads as it did. -/
def runPartsSpec : ChangeSpec := { name := "runParts", fn := fun _ => fun
  | [d1, d2, d3, d4, d5] => { results := [.lit (.bool true)], args := [d1, d2, d3, d4, d5] }
  | _ => none }
def runPartsRow : OpenClaim := { program := "ytljdnbdmfhcmpaadoor", sum := "b3162f2d016b31efe5cccc1d9c7416026963c61b0bf23f78a5bf4c89cea65121", func := "barograph/barographkeep.RunParts", spec := "runParts", unfollowed := true, recurses := true, named := ["barograph/vm.shapes"], apart := false, laid := [("barograph/vm.shapes", laid_barograph_vm_shapes)] }
def RunPartsSaid : Prop := runPartsRow.holds Tryd.pinned (OpenSpec.ofChange runPartsSpec)

/-- ITS FALSE NEIGHBOUR: 'it returns false'. Refute it at one input. -/
def runPartsWrong : ChangeSpec := { name := "runParts", fn := fun _ => fun
  | [d1, d2, d3, d4, d5] => { results := [.lit (.bool false)], args := [d1, d2, d3, d4, d5] }
  | _ => none }
def RunPartsWrongFalsely : Prop := runPartsRow.holds Tryd.pinned (OpenSpec.ofChange runPartsWrong)

/-- 'barographkeep.RunBetween': WHATEVER THE INPUT: true; the input reads as it did. -/
def runBetweenSpec : ChangeSpec := { name := "runBetween", fn := fun _ => fun
  | [d1, d2, d3, d4] => { results := [.lit (.bool true)], args := [d1, d2, d3, d4] }
  | _ => none }
def runBetweenRow : OpenClaim := { program := "ytljdnbdmfhcmpaadoor", sum := "b3162f2d016b31efe5cccc1d9c7416026963c61b0bf23f78a5bf4c89cea65121", func := "barograph/barographkeep.RunBetween", spec := "runBetween", unfollowed := true, recurses := true, named := ["barograph/vm.shapes"], apart := false, laid := [("barograph/vm.shapes", laid_barograph_vm_shapes)] }
def RunBetweenSaid : Prop := runBetweenRow.holds Tryd.pinned (OpenSpec.ofChange runBetweenSpec)

/-- ITS FALSE NEIGHBOUR: 'it returns false'. Refute it at one input. -/
def runBetweenWrong : ChangeSpec := { name := "runBetween", fn := fun _ => fun
  | [d1, d2, d3, d4] => { results := [.lit (.bool false)], args := [d1, d2, d3, d4] }
  | _ => none }
def RunBetweenWrongFalsely : Prop := runBetweenRow.holds Tryd.pinned (OpenSpec.ofChange runBetweenWrong)

/-- 'barographkeep.RunIdle': WHATEVER THE INPUT: true; the input reads as it did. -/
def runIdleSpec : ChangeSpec := { name := "runIdle", fn := fun _ => fun
  | [d1, d2, d3, d4, d5] => { results := [.lit (.bool true)], args := [d1, d2, d3, d4, d5] }
  | _ => none }
def runIdleRow : OpenClaim := { program := "ytljdnbdmfhcmpaadoor", sum := "b3162f2d016b31efe5cccc1d9c7416026963c61b0bf23f78a5bf4c89cea65121", func := "barograph/barographkeep.RunIdle", spec := "runIdle", unfollowed := true, recurses := true, named := ["barograph/vm.shapes"], apart := false, laid := [("barograph/vm.shapes", laid_barograph_vm_shapes)] }
def RunIdleSaid : Prop := runIdleRow.holds Tryd.pinned (OpenSpec.ofChange runIdleSpec)

/-- ITS FALSE NEIGHBOUR: 'it returns false'. Refute it at one input. -/
def runIdleWrong : ChangeSpec := { name := "runIdle", fn := fun _ => fun
  | [d1, d2, d3, d4, d5] => { results := [.lit (.bool false)], args := [d1, d2, d3, d4, d5] }
  | _ => none }
def RunIdleWrongFalsely : Prop := runIdleRow.holds Tryd.pinned (OpenSpec.ofChange runIdleWrong)

/-- 'barographkeep.RunAlone': WHATEVER THE INPUT: true; the input reads as it did. -/
def runAloneSpec : ChangeSpec := { name := "runAlone", fn := fun _ => fun
  | [d1, d2, d3] => { results := [.lit (.bool true)], args := [d1, d2, d3] }
  | _ => none }
def runAloneRow : OpenClaim := { program := "ytljdnbdmfhcmpaadoor", sum := "b3162f2d016b31efe5cccc1d9c7416026963c61b0bf23f78a5bf4c89cea65121", func := "barograph/barographkeep.RunAlone", spec := "runAlone", unfollowed := true, recurses := true, named := ["barograph/vm.shapes"], apart := false, laid := [("barograph/vm.shapes", laid_barograph_vm_shapes)] }
def RunAloneSaid : Prop := runAloneRow.holds Tryd.pinned (OpenSpec.ofChange runAloneSpec)

/-- ITS FALSE NEIGHBOUR: 'it returns false'. Refute it at one input. -/
def runAloneWrong : ChangeSpec := { name := "runAlone", fn := fun _ => fun
  | [d1, d2, d3] => { results := [.lit (.bool false)], args := [d1, d2, d3] }
  | _ => none }
def RunAloneWrongFalsely : Prop := runAloneRow.holds Tryd.pinned (OpenSpec.ofChange runAloneWrong)

/- THE SECOND FORM. 'bulk': how many values and letters a reading holds, each counted each time it is reached (what is shared counts as often as it is met; a slice's spare places count too). A statement '..UptoSaid' is the law's where the arguments, and the package variables that the reading takes, are together of bulk at most 1048576: NARROWER than '..Said'. Prove '..Said' where nothing that the law and all that it calls make is longer than what came in: it says more and counts as full. Else prove '..UptoSaid'. A law counts once. -/
mutual
def uptoBulk {H : Type} : DataW H → Nat
  | .lit (.string bytes) => bytes.length + 1
  | .lit _ => 1
  | .nil => 1
  | .ptr d => uptoBulk d + 1
  | .slice elems spare => uptoBulkAll elems + uptoBulkAll spare + 1
  | .agg parts => uptoBulkAll parts + 1
  | .iface _ d => uptoBulk d + 1
  | .map entries => uptoBulkEntries entries + 1
  | .held _ => 1
def uptoBulkAll {H : Type} : List (DataW H) → Nat
  | [] => 0
  | d :: r => uptoBulk d + uptoBulkAll r
def uptoBulkEntries {H : Type} : List (Lit × DataW H) → Nat
  | [] => 0
  | x :: r => uptoBulkEntry x + uptoBulkEntries r
def uptoBulkEntry {H : Type} : Lit × DataW H → Nat
  | (.string bytes, d) => bytes.length + uptoBulk d + 1
  | (_, d) => uptoBulk d + 1
 end
def uptoSmall : (H : Type) → List (DataW H) → Bool := fun _ ds => decide (uptoBulkAll ds ≤ 1048576)
def OpenSpec.upto (s : _root_.Go.ChangeSpec) : _root_.Go.OpenSpec := { _root_.Go.OpenSpec.ofChange s with cond := some uptoSmall }

/-- 'barographkeep.VmSteps', WHERE WHAT IT READS IS OF BULK AT MOST 1048576: true; the input reads as it did. -/
def vmStepsUptoRow : OpenClaim := { program := "ytljdnbdmfhcmpaadoor", sum := "b3162f2d016b31efe5cccc1d9c7416026963c61b0bf23f78a5bf4c89cea65121", func := "barograph/barographkeep.VmSteps", spec := "vmSteps", named := ["barograph/vm.shapes"], apart := false, laid := [("barograph/vm.shapes", laid_barograph_vm_shapes)], narrowed := true }
def VmStepsUptoSaid : Prop := vmStepsUptoRow.holds Tryd.pinned (OpenSpec.upto vmStepsSpec)

/-- 'barographkeep.VmWords', WHERE WHAT IT READS IS OF BULK AT MOST 1048576: true; the input reads as it did. -/
def vmWordsUptoRow : OpenClaim := { program := "ytljdnbdmfhcmpaadoor", sum := "b3162f2d016b31efe5cccc1d9c7416026963c61b0bf23f78a5bf4c89cea65121", func := "barograph/barographkeep.VmWords", spec := "vmWords", named := ["barograph/vm.shapes"], apart := false, laid := [("barograph/vm.shapes", laid_barograph_vm_shapes)], narrowed := true }
def VmWordsUptoSaid : Prop := vmWordsUptoRow.holds Tryd.pinned (OpenSpec.upto vmWordsSpec)

/-- 'barographkeep.VmRenamed', WHERE WHAT IT READS IS OF BULK AT MOST 1048576: true; the input reads as it did. -/
def vmRenamedUptoRow : OpenClaim := { program := "ytljdnbdmfhcmpaadoor", sum := "b3162f2d016b31efe5cccc1d9c7416026963c61b0bf23f78a5bf4c89cea65121", func := "barograph/barographkeep.VmRenamed", spec := "vmRenamed", unfollowed := true, recurses := true, named := ["barograph/vm.shapes"], apart := false, laid := [("barograph/vm.shapes", laid_barograph_vm_shapes)], narrowed := true }
def VmRenamedUptoSaid : Prop := vmRenamedUptoRow.holds Tryd.pinned (OpenSpec.upto vmRenamedSpec)

/-- 'barographkeep.VmMoved', WHERE WHAT IT READS IS OF BULK AT MOST 1048576: true; the input reads as it did. -/
def vmMovedUptoRow : OpenClaim := { program := "ytljdnbdmfhcmpaadoor", sum := "b3162f2d016b31efe5cccc1d9c7416026963c61b0bf23f78a5bf4c89cea65121", func := "barograph/barographkeep.VmMoved", spec := "vmMoved", named := ["barograph/vm.shapes"], apart := false, laid := [("barograph/vm.shapes", laid_barograph_vm_shapes)], narrowed := true }
def VmMovedUptoSaid : Prop := vmMovedUptoRow.holds Tryd.pinned (OpenSpec.upto vmMovedSpec)

/-- 'barographkeep.RunParts', WHERE WHAT IT READS IS OF BULK AT MOST 1048576: true; the input reads as it did. -/
def runPartsUptoRow : OpenClaim := { program := "ytljdnbdmfhcmpaadoor", sum := "b3162f2d016b31efe5cccc1d9c7416026963c61b0bf23f78a5bf4c89cea65121", func := "barograph/barographkeep.RunParts", spec := "runParts", unfollowed := true, recurses := true, named := ["barograph/vm.shapes"], apart := false, laid := [("barograph/vm.shapes", laid_barograph_vm_shapes)], narrowed := true }
def RunPartsUptoSaid : Prop := runPartsUptoRow.holds Tryd.pinned (OpenSpec.upto runPartsSpec)

/-- 'barographkeep.RunBetween', WHERE WHAT IT READS IS OF BULK AT MOST 1048576: true; the input reads as it did. -/
def runBetweenUptoRow : OpenClaim := { program := "ytljdnbdmfhcmpaadoor", sum := "b3162f2d016b31efe5cccc1d9c7416026963c61b0bf23f78a5bf4c89cea65121", func := "barograph/barographkeep.RunBetween", spec := "runBetween", unfollowed := true, recurses := true, named := ["barograph/vm.shapes"], apart := false, laid := [("barograph/vm.shapes", laid_barograph_vm_shapes)], narrowed := true }
def RunBetweenUptoSaid : Prop := runBetweenUptoRow.holds Tryd.pinned (OpenSpec.upto runBetweenSpec)

/-- 'barographkeep.RunIdle', WHERE WHAT IT READS IS OF BULK AT MOST 1048576: true; the input reads as it did. -/
def runIdleUptoRow : OpenClaim := { program := "ytljdnbdmfhcmpaadoor", sum := "b3162f2d016b31efe5cccc1d9c7416026963c61b0bf23f78a5bf4c89cea65121", func := "barograph/barographkeep.RunIdle", spec := "runIdle", unfollowed := true, recurses := true, named := ["barograph/vm.shapes"], apart := false, laid := [("barograph/vm.shapes", laid_barograph_vm_shapes)], narrowed := true }
def RunIdleUptoSaid : Prop := runIdleUptoRow.holds Tryd.pinned (OpenSpec.upto runIdleSpec)

/-- 'barographkeep.RunAlone', WHERE WHAT IT READS IS OF BULK AT MOST 1048576: true; the input reads as it did. -/
def runAloneUptoRow : OpenClaim := { program := "ytljdnbdmfhcmpaadoor", sum := "b3162f2d016b31efe5cccc1d9c7416026963c61b0bf23f78a5bf4c89cea65121", func := "barograph/barographkeep.RunAlone", spec := "runAlone", unfollowed := true, recurses := true, named := ["barograph/vm.shapes"], apart := false, laid := [("barograph/vm.shapes", laid_barograph_vm_shapes)], narrowed := true }
def RunAloneUptoSaid : Prop := runAloneUptoRow.holds Tryd.pinned (OpenSpec.upto runAloneSpec)

end Rows
end Go.Proofs.YtljdnbdmfhcmpaaDoor
