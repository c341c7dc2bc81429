/-
  NARROWER THAN 'FOR EVERY INPUT', by the rows' own cells (each row's printed sentence says how): OnceOne: laid · OnceFirst: laid · ConsOne: laid · ConsFirst: laid · CountLinear: laid · CountAll: laid · CountTells: laid · RwlApart: laid · RwlShares: laid · BarrTogether: laid · BarrEnds: laid · SemaMost: laid · SemaEnds: laid · SemaFull: laid.
  DERIVED. THE GIVEN ROWS OF THIS SEAT. 14 by the template 'for every input the law returns true; each argument reads behind the call as it read before'; 0 by the template 'total and deterministic' (their statements: YtnoinojhocicjaaDoorTotals.lean).
  GIVEN WITH THE SEED: the statements are not yours to turn. If you find one false, say at which input.
  Laid BY PROGRAM, IN A SANDBOX (cutbox-rows.mjs): the forced cells as the released guide's own fill.sh prints them over the translation 726029a0174ba4cd… (all of the seat's roots in one cut). By AI agents, Wed Nov 11 2026. No macro, syntax, notation, axiom, sorry.
-/
import Derived.Test.YtnoinojhocicjaaDoorChecked
import GoSem.Claim
import GoSem.ClaimJoined
import GoSem.ClaimMapViews
import Derived.JoinedTies
import Derived.KernelRfl
namespace Go.Proofs.YtnoinojhocicjaaDoor
/- THE CELL 'sum', in the pinned program and in every row, IS THE sha256 OF THE DUMP (.gsa) THAT YtnoinojhocicjaaDoorProg.lean LOADS. Nothing in Lean hashes anything: it is a label: what it is worth is what the hold of that sum in a sandbox is worth. -/
noncomputable def Tryd.pinned : Pinned := { name := "ytnoinojhocicjaadoor", sum := "726029a0174ba4cd65858cb7d95bba7d999457837bfff839837224bc216d19a2", checked := Tryd.checked }
namespace Rows
def none {H : Type} : Left H := { results := [], args := [] }

/- WHAT THE LISTED PACKAGE-LEVEL VARIABLES READ AS WHEN THE CALL BEGINS. Each datum BY PROGRAM (the guide's laid-datum.mjs) off the statement by which the dump's own 'gosem.cut.vars' lays the variable. In a bare row this is a premise. The card (YtnoinojhocicjaaDoorCards.lean) ties it to the program's text. -/
def laid_barograph_vm_shapes {H : Type} : DataW H := .agg [.lit (.string []), .lit (.string [114, 110, 45, 45]), .lit (.string [114, 114, 45, 45]), .lit (.string [114, 114, 114, 45]), .lit (.string [114, 114, 114, 45]), .lit (.string [114, 114, 114, 45]), .lit (.string [114, 114, 114, 45]), .lit (.string [114, 114, 114, 45]), .lit (.string [114, 114, 114, 45]), .lit (.string [114, 114, 114, 45]), .lit (.string [112, 45, 45, 45]), .lit (.string [114, 112, 45, 45]), .lit (.string [114, 112, 45, 45]), .lit (.string [114, 114, 110, 45]), .lit (.string [114, 114, 110, 45]), .lit (.string [114, 114, 110, 114]), .lit (.string [114, 45, 45, 45]), .lit (.string [45, 45, 45, 45])]

/-- 'barographkeep.OnceOne': WHATEVER THE INPUT: true; the input reads as it did. -/
def onceOneSpec : ChangeSpec := { name := "onceOne", fn := fun _ => fun
  | [d] => { results := [.lit (.bool true)], args := [d] }
  | _ => none }
def onceOneRow : OpenClaim := { program := "ytnoinojhocicjaadoor", sum := "726029a0174ba4cd65858cb7d95bba7d999457837bfff839837224bc216d19a2", func := "barograph/barographkeep.OnceOne", spec := "onceOne", unfollowed := true, recurses := true, named := ["barograph/vm.shapes"], apart := false, laid := [("barograph/vm.shapes", laid_barograph_vm_shapes)] }
def OnceOneSaid : Prop := onceOneRow.holds Tryd.pinned (OpenSpec.ofChange onceOneSpec)

/-- ITS FALSE NEIGHBOUR: 'it returns false'. Refute it at one input. -/
def onceOneWrong : ChangeSpec := { name := "onceOne", fn := fun _ => fun
  | [d] => { results := [.lit (.bool false)], args := [d] }
  | _ => none }
def OnceOneWrongFalsely : Prop := onceOneRow.holds Tryd.pinned (OpenSpec.ofChange onceOneWrong)

/-- 'barographkeep.OnceFirst': WHATEVER THE INPUT: true; the input reads as it did. -/
def onceFirstSpec : ChangeSpec := { name := "onceFirst", fn := fun _ => fun
  | [d] => { results := [.lit (.bool true)], args := [d] }
  | _ => none }
def onceFirstRow : OpenClaim := { program := "ytnoinojhocicjaadoor", sum := "726029a0174ba4cd65858cb7d95bba7d999457837bfff839837224bc216d19a2", func := "barograph/barographkeep.OnceFirst", spec := "onceFirst", unfollowed := true, recurses := true, named := ["barograph/vm.shapes"], apart := false, laid := [("barograph/vm.shapes", laid_barograph_vm_shapes)] }
def OnceFirstSaid : Prop := onceFirstRow.holds Tryd.pinned (OpenSpec.ofChange onceFirstSpec)

/-- ITS FALSE NEIGHBOUR: 'it returns false'. Refute it at one input. -/
def onceFirstWrong : ChangeSpec := { name := "onceFirst", fn := fun _ => fun
  | [d] => { results := [.lit (.bool false)], args := [d] }
  | _ => none }
def OnceFirstWrongFalsely : Prop := onceFirstRow.holds Tryd.pinned (OpenSpec.ofChange onceFirstWrong)

/-- 'barographkeep.ConsOne': WHATEVER THE INPUT: true; the input reads as it did. -/
def consOneSpec : ChangeSpec := { name := "consOne", fn := fun _ => fun
  | [d1, d2] => { results := [.lit (.bool true)], args := [d1, d2] }
  | _ => none }
def consOneRow : OpenClaim := { program := "ytnoinojhocicjaadoor", sum := "726029a0174ba4cd65858cb7d95bba7d999457837bfff839837224bc216d19a2", func := "barograph/barographkeep.ConsOne", spec := "consOne", unfollowed := true, recurses := true, named := ["barograph/vm.shapes"], apart := false, laid := [("barograph/vm.shapes", laid_barograph_vm_shapes)] }
def ConsOneSaid : Prop := consOneRow.holds Tryd.pinned (OpenSpec.ofChange consOneSpec)

/-- ITS FALSE NEIGHBOUR: 'it returns false'. Refute it at one input. -/
def consOneWrong : ChangeSpec := { name := "consOne", fn := fun _ => fun
  | [d1, d2] => { results := [.lit (.bool false)], args := [d1, d2] }
  | _ => none }
def ConsOneWrongFalsely : Prop := consOneRow.holds Tryd.pinned (OpenSpec.ofChange consOneWrong)

/-- 'barographkeep.ConsFirst': WHATEVER THE INPUT: true; the input reads as it did. -/
def consFirstSpec : ChangeSpec := { name := "consFirst", fn := fun _ => fun
  | [d1, d2, d3] => { results := [.lit (.bool true)], args := [d1, d2, d3] }
  | _ => none }
def consFirstRow : OpenClaim := { program := "ytnoinojhocicjaadoor", sum := "726029a0174ba4cd65858cb7d95bba7d999457837bfff839837224bc216d19a2", func := "barograph/barographkeep.ConsFirst", spec := "consFirst", unfollowed := true, recurses := true, named := ["barograph/vm.shapes"], apart := false, laid := [("barograph/vm.shapes", laid_barograph_vm_shapes)] }
def ConsFirstSaid : Prop := consFirstRow.holds Tryd.pinned (OpenSpec.ofChange consFirstSpec)

/-- ITS FALSE NEIGHBOUR: 'it returns false'. Refute it at one input. -/
def consFirstWrong : ChangeSpec := { name := "consFirst", fn := fun _ => fun
  | [d1, d2, d3] => { results := [.lit (.bool false)], args := [d1, d2, d3] }
  | _ => none }
def ConsFirstWrongFalsely : Prop := consFirstRow.holds Tryd.pinned (OpenSpec.ofChange consFirstWrong)

/-- 'barographkeep.CountLinear': WHATEVER THE INPUT: true; the input reads as it did. -/
def countLinearSpec : ChangeSpec := { name := "countLinear", fn := fun _ => fun
  | [d1, d2] => { results := [.lit (.bool true)], args := [d1, d2] }
  | _ => none }
def countLinearRow : OpenClaim := { program := "ytnoinojhocicjaadoor", sum := "726029a0174ba4cd65858cb7d95bba7d999457837bfff839837224bc216d19a2", func := "barograph/barographkeep.CountLinear", spec := "countLinear", unfollowed := true, recurses := true, named := ["barograph/vm.shapes"], apart := false, laid := [("barograph/vm.shapes", laid_barograph_vm_shapes)] }
def CountLinearSaid : Prop := countLinearRow.holds Tryd.pinned (OpenSpec.ofChange countLinearSpec)

/-- ITS FALSE NEIGHBOUR: 'it returns false'. Refute it at one input. -/
def countLinearWrong : ChangeSpec := { name := "countLinear", fn := fun _ => fun
  | [d1, d2] => { results := [.lit (.bool false)], args := [d1, d2] }
  | _ => none }
def CountLinearWrongFalsely : Prop := countLinearRow.holds Tryd.pinned (OpenSpec.ofChange countLinearWrong)

/-- 'barographkeep.CountAll': WHATEVER THE INPUT: true; the input reads as it did. -/
def countAllSpec : ChangeSpec := { name := "countAll", fn := fun _ => fun
  | [d1, d2] => { results := [.lit (.bool true)], args := [d1, d2] }
  | _ => none }
def countAllRow : OpenClaim := { program := "ytnoinojhocicjaadoor", sum := "726029a0174ba4cd65858cb7d95bba7d999457837bfff839837224bc216d19a2", func := "barograph/barographkeep.CountAll", spec := "countAll", unfollowed := true, recurses := true, named := ["barograph/vm.shapes"], apart := false, laid := [("barograph/vm.shapes", laid_barograph_vm_shapes)] }
def CountAllSaid : Prop := countAllRow.holds Tryd.pinned (OpenSpec.ofChange countAllSpec)

/-- ITS FALSE NEIGHBOUR: 'it returns false'. Refute it at one input. -/
def countAllWrong : ChangeSpec := { name := "countAll", fn := fun _ => fun
  | [d1, d2] => { results := [.lit (.bool false)], args := [d1, d2] }
  | _ => none }
def CountAllWrongFalsely : Prop := countAllRow.holds Tryd.pinned (OpenSpec.ofChange countAllWrong)

/-- 'barographkeep.CountTells': WHATEVER THE INPUT: true; the input reads as it did. -/
def countTellsSpec : ChangeSpec := { name := "countTells", fn := fun _ => fun
  | [d] => { results := [.lit (.bool true)], args := [d] }
  | _ => none }
def countTellsRow : OpenClaim := { program := "ytnoinojhocicjaadoor", sum := "726029a0174ba4cd65858cb7d95bba7d999457837bfff839837224bc216d19a2", func := "barograph/barographkeep.CountTells", spec := "countTells", unfollowed := true, recurses := true, named := ["barograph/vm.shapes"], apart := false, laid := [("barograph/vm.shapes", laid_barograph_vm_shapes)] }
def CountTellsSaid : Prop := countTellsRow.holds Tryd.pinned (OpenSpec.ofChange countTellsSpec)

/-- ITS FALSE NEIGHBOUR: 'it returns false'. Refute it at one input. -/
def countTellsWrong : ChangeSpec := { name := "countTells", fn := fun _ => fun
  | [d] => { results := [.lit (.bool false)], args := [d] }
  | _ => none }
def CountTellsWrongFalsely : Prop := countTellsRow.holds Tryd.pinned (OpenSpec.ofChange countTellsWrong)

/-- 'barographkeep.RwlApart': WHATEVER THE INPUT: true; the input reads as it did. -/
def rwlApartSpec : ChangeSpec := { name := "rwlApart", fn := fun _ => fun
  | [d1, d2, d3] => { results := [.lit (.bool true)], args := [d1, d2, d3] }
  | _ => none }
def rwlApartRow : OpenClaim := { program := "ytnoinojhocicjaadoor", sum := "726029a0174ba4cd65858cb7d95bba7d999457837bfff839837224bc216d19a2", func := "barograph/barographkeep.RwlApart", spec := "rwlApart", unfollowed := true, recurses := true, named := ["barograph/vm.shapes"], apart := false, laid := [("barograph/vm.shapes", laid_barograph_vm_shapes)] }
def RwlApartSaid : Prop := rwlApartRow.holds Tryd.pinned (OpenSpec.ofChange rwlApartSpec)

/-- ITS FALSE NEIGHBOUR: 'it returns false'. Refute it at one input. -/
def rwlApartWrong : ChangeSpec := { name := "rwlApart", fn := fun _ => fun
  | [d1, d2, d3] => { results := [.lit (.bool false)], args := [d1, d2, d3] }
  | _ => none }
def RwlApartWrongFalsely : Prop := rwlApartRow.holds Tryd.pinned (OpenSpec.ofChange rwlApartWrong)

/-- 'barographkeep.RwlShares': WHATEVER THE INPUT: true; the input reads as it did. -/
def rwlSharesSpec : ChangeSpec := { name := "rwlShares", fn := fun _ => fun
  | [d1, d2] => { results := [.lit (.bool true)], args := [d1, d2] }
  | _ => none }
def rwlSharesRow : OpenClaim := { program := "ytnoinojhocicjaadoor", sum := "726029a0174ba4cd65858cb7d95bba7d999457837bfff839837224bc216d19a2", func := "barograph/barographkeep.RwlShares", spec := "rwlShares", unfollowed := true, recurses := true, named := ["barograph/vm.shapes"], apart := false, laid := [("barograph/vm.shapes", laid_barograph_vm_shapes)] }
def RwlSharesSaid : Prop := rwlSharesRow.holds Tryd.pinned (OpenSpec.ofChange rwlSharesSpec)

/-- ITS FALSE NEIGHBOUR: 'it returns false'. Refute it at one input. -/
def rwlSharesWrong : ChangeSpec := { name := "rwlShares", fn := fun _ => fun
  | [d1, d2] => { results := [.lit (.bool false)], args := [d1, d2] }
  | _ => none }
def RwlSharesWrongFalsely : Prop := rwlSharesRow.holds Tryd.pinned (OpenSpec.ofChange rwlSharesWrong)

/-- 'barographkeep.BarrTogether': WHATEVER THE INPUT: true; the input reads as it did. -/
def barrTogetherSpec : ChangeSpec := { name := "barrTogether", fn := fun _ => fun
  | [d1, d2, d3] => { results := [.lit (.bool true)], args := [d1, d2, d3] }
  | _ => none }
def barrTogetherRow : OpenClaim := { program := "ytnoinojhocicjaadoor", sum := "726029a0174ba4cd65858cb7d95bba7d999457837bfff839837224bc216d19a2", func := "barograph/barographkeep.BarrTogether", spec := "barrTogether", unfollowed := true, recurses := true, named := ["barograph/vm.shapes"], apart := false, laid := [("barograph/vm.shapes", laid_barograph_vm_shapes)] }
def BarrTogetherSaid : Prop := barrTogetherRow.holds Tryd.pinned (OpenSpec.ofChange barrTogetherSpec)

/-- ITS FALSE NEIGHBOUR: 'it returns false'. Refute it at one input. -/
def barrTogetherWrong : ChangeSpec := { name := "barrTogether", fn := fun _ => fun
  | [d1, d2, d3] => { results := [.lit (.bool false)], args := [d1, d2, d3] }
  | _ => none }
def BarrTogetherWrongFalsely : Prop := barrTogetherRow.holds Tryd.pinned (OpenSpec.ofChange barrTogetherWrong)

/-- 'barographkeep.BarrEnds': WHATEVER THE INPUT: true; the input reads as it did. -/
def barrEndsSpec : ChangeSpec := { name := "barrEnds", fn := fun _ => fun
  | [d1, d2] => { results := [.lit (.bool true)], args := [d1, d2] }
  | _ => none }
def barrEndsRow : OpenClaim := { program := "ytnoinojhocicjaadoor", sum := "726029a0174ba4cd65858cb7d95bba7d999457837bfff839837224bc216d19a2", func := "barograph/barographkeep.BarrEnds", spec := "barrEnds", unfollowed := true, recurses := true, named := ["barograph/vm.shapes"], apart := false, laid := [("barograph/vm.shapes", laid_barograph_vm_shapes)] }
def BarrEndsSaid : Prop := barrEndsRow.holds Tryd.pinned (OpenSpec.ofChange barrEndsSpec)

/-- ITS FALSE NEIGHBOUR: 'it returns false'. Refute it at one input. -/
def barrEndsWrong : ChangeSpec := { name := "barrEnds", fn := fun _ => fun
  | [d1, d2] => { results := [.lit (.bool false)], args := [d1, d2] }
  | _ => none }
def BarrEndsWrongFalsely : Prop := barrEndsRow.holds Tryd.pinned (OpenSpec.ofChange barrEndsWrong)

/-- 'barographkeep.SemaMost': WHATEVER THE INPUT: true; the input reads as it did. -/
def semaMostSpec : ChangeSpec := { name := "semaMost", fn := fun _ => fun
  | [d1, d2, d3] => { results := [.lit (.bool true)], args := [d1, d2, d3] }
  | _ => none }
def semaMostRow : OpenClaim := { program := "ytnoinojhocicjaadoor", sum := "726029a0174ba4cd65858cb7d95bba7d999457837bfff839837224bc216d19a2", func := "barograph/barographkeep.SemaMost", spec := "semaMost", unfollowed := true, recurses := true, named := ["barograph/vm.shapes"], apart := false, laid := [("barograph/vm.shapes", laid_barograph_vm_shapes)] }
def SemaMostSaid : Prop := semaMostRow.holds Tryd.pinned (OpenSpec.ofChange semaMostSpec)

/-- ITS FALSE NEIGHBOUR: 'it returns false'. Refute it at one input. -/
def semaMostWrong : ChangeSpec := { name := "semaMost", fn := fun _ => fun
  | [d1, d2, d3] => { results := [.lit (.bool false)], args := [d1, d2, d3] }
  | _ => none }
def SemaMostWrongFalsely : Prop := semaMostRow.holds Tryd.pinned (OpenSpec.ofChange semaMostWrong)

/-- 'barographkeep.SemaEnds': WHATEVER THE INPUT: true; the input reads as it did. -/
def semaEndsSpec : ChangeSpec := { name := "semaEnds", fn := fun _ => fun
  | [d] => { results := [.lit (.bool true)], args := [d] }
  | _ => none }
def semaEndsRow : OpenClaim := { program := "ytnoinojhocicjaadoor", sum := "726029a0174ba4cd65858cb7d95bba7d999457837bfff839837224bc216d19a2", func := "barograph/barographkeep.SemaEnds", spec := "semaEnds", unfollowed := true, recurses := true, named := ["barograph/vm.shapes"], apart := false, laid := [("barograph/vm.shapes", laid_barograph_vm_shapes)] }
def SemaEndsSaid : Prop := semaEndsRow.holds Tryd.pinned (OpenSpec.ofChange semaEndsSpec)

/-- ITS FALSE NEIGHBOUR: 'it returns false'. Refute it at one input. -/
def semaEndsWrong : ChangeSpec := { name := "semaEnds", fn := fun _ => fun
  | [d] => { results := [.lit (.bool false)], args := [d] }
  | _ => none }
def SemaEndsWrongFalsely : Prop := semaEndsRow.holds Tryd.pinned (OpenSpec.ofChange semaEndsWrong)

/-- 'barographkeep.SemaFull': WHATEVER THE INPUT: true; the input reads as it did. -/
def semaFullSpec : ChangeSpec := { name := "semaFull", fn := fun _ => fun
  | [d1, d2] => { results := [.lit (.bool true)], args := [d1, d2] }
  | _ => none }
def semaFullRow : OpenClaim := { program := "ytnoinojhocicjaadoor", sum := "726029a0174ba4cd65858cb7d95bba7d999457837bfff839837224bc216d19a2", func := "barograph/barographkeep.SemaFull", spec := "semaFull", unfollowed := true, recurses := true, named := ["barograph/vm.shapes"], apart := false, laid := [("barograph/vm.shapes", laid_barograph_vm_shapes)] }
def SemaFullSaid : Prop := semaFullRow.holds Tryd.pinned (OpenSpec.ofChange semaFullSpec)

/-- ITS FALSE NEIGHBOUR: 'it returns false'. Refute it at one input. -/
def semaFullWrong : ChangeSpec := { name := "semaFull", fn := fun _ => fun
  | [d1, d2] => { results := [.lit (.bool false)], args := [d1, d2] }
  | _ => none }
def SemaFullWrongFalsely : Prop := semaFullRow.holds Tryd.pinned (OpenSpec.ofChange semaFullWrong)

/- THE SECOND FORM. 'bulk': how many values and letters a reading holds, each counted each time it is reached (what is shared counts as often as it is met; a slice's spare places count too). A statement '..UptoSaid' is the law's where the arguments, and the package variables that the reading takes, are together of bulk at most 1048576: NARROWER than '..Said'. Prove '..Said' where nothing that the law and all that it calls make is longer than what came in: it says more and counts as full. Else prove '..UptoSaid'. A law counts once. -/
mutual
def uptoBulk {H : Type} : DataW H → Nat
  | .lit (.string bytes) => bytes.length + 1
  | .lit _ => 1
  | .nil => 1
  | .ptr d => uptoBulk d + 1
  | .slice elems spare => uptoBulkAll elems + uptoBulkAll spare + 1
  | .agg parts => uptoBulkAll parts + 1
  | .iface _ d => uptoBulk d + 1
  | .map entries => uptoBulkEntries entries + 1
  | .held _ => 1
def uptoBulkAll {H : Type} : List (DataW H) → Nat
  | [] => 0
  | d :: r => uptoBulk d + uptoBulkAll r
def uptoBulkEntries {H : Type} : List (Lit × DataW H) → Nat
  | [] => 0
  | x :: r => uptoBulkEntry x + uptoBulkEntries r
def uptoBulkEntry {H : Type} : Lit × DataW H → Nat
  | (.string bytes, d) => bytes.length + uptoBulk d + 1
  | (_, d) => uptoBulk d + 1
 end
def uptoSmall : (H : Type) → List (DataW H) → Bool := fun _ ds => decide (uptoBulkAll ds ≤ 1048576)
def OpenSpec.upto (s : _root_.Go.ChangeSpec) : _root_.Go.OpenSpec := { _root_.Go.OpenSpec.ofChange s with cond := some uptoSmall }

/-- 'barographkeep.OnceOne', WHERE WHAT IT READS IS OF BULK AT MOST 1048576: true; the input reads as it did. -/
def onceOneUptoRow : OpenClaim := { program := "ytnoinojhocicjaadoor", sum := "726029a0174ba4cd65858cb7d95bba7d999457837bfff839837224bc216d19a2", func := "barograph/barographkeep.OnceOne", spec := "onceOne", unfollowed := true, recurses := true, named := ["barograph/vm.shapes"], apart := false, laid := [("barograph/vm.shapes", laid_barograph_vm_shapes)], narrowed := true }
def OnceOneUptoSaid : Prop := onceOneUptoRow.holds Tryd.pinned (OpenSpec.upto onceOneSpec)

/-- 'barographkeep.OnceFirst', WHERE WHAT IT READS IS OF BULK AT MOST 1048576: true; the input reads as it did. -/
def onceFirstUptoRow : OpenClaim := { program := "ytnoinojhocicjaadoor", sum := "726029a0174ba4cd65858cb7d95bba7d999457837bfff839837224bc216d19a2", func := "barograph/barographkeep.OnceFirst", spec := "onceFirst", unfollowed := true, recurses := true, named := ["barograph/vm.shapes"], apart := false, laid := [("barograph/vm.shapes", laid_barograph_vm_shapes)], narrowed := true }
def OnceFirstUptoSaid : Prop := onceFirstUptoRow.holds Tryd.pinned (OpenSpec.upto onceFirstSpec)

/-- 'barographkeep.ConsOne', WHERE WHAT IT READS IS OF BULK AT MOST 1048576: true; the input reads as it did. -/
def consOneUptoRow : OpenClaim := { program := "ytnoinojhocicjaadoor", sum := "726029a0174ba4cd65858cb7d95bba7d999457837bfff839837224bc216d19a2", func := "barograph/barographkeep.ConsOne", spec := "consOne", unfollowed := true, recurses := true, named := ["barograph/vm.shapes"], apart := false, laid := [("barograph/vm.shapes", laid_barograph_vm_shapes)], narrowed := true }
def ConsOneUptoSaid : Prop := consOneUptoRow.holds Tryd.pinned (OpenSpec.upto consOneSpec)

/-- 'barographkeep.ConsFirst', WHERE WHAT IT READS IS OF BULK AT MOST 1048576: true; the input reads as it did. -/
def consFirstUptoRow : OpenClaim := { program := "ytnoinojhocicjaadoor", sum := "726029a0174ba4cd65858cb7d95bba7d999457837bfff839837224bc216d19a2", func := "barograph/barographkeep.ConsFirst", spec := "consFirst", unfollowed := true, recurses := true, named := ["barograph/vm.shapes"], apart := false, laid := [("barograph/vm.shapes", laid_barograph_vm_shapes)], narrowed := true }
def ConsFirstUptoSaid : Prop := consFirstUptoRow.holds Tryd.pinned (OpenSpec.upto consFirstSpec)

/-- 'barographkeep.CountLinear', WHERE WHAT IT READS IS OF BULK AT MOST 1048576: true; the input reads as it did. -/
def countLinearUptoRow : OpenClaim := { program := "ytnoinojhocicjaadoor", sum := "726029a0174ba4cd65858cb7d95bba7d999457837bfff839837224bc216d19a2", func := "barograph/barographkeep.CountLinear", spec := "countLinear", unfollowed := true, recurses := true, named := ["barograph/vm.shapes"], apart := false, laid := [("barograph/vm.shapes", laid_barograph_vm_shapes)], narrowed := true }
def CountLinearUptoSaid : Prop := countLinearUptoRow.holds Tryd.pinned (OpenSpec.upto countLinearSpec)

/-- 'barographkeep.CountAll', WHERE WHAT IT READS IS OF BULK AT MOST 1048576: true; the input reads as it did. -/
def countAllUptoRow : OpenClaim := { program := "ytnoinojhocicjaadoor", sum := "726029a0174ba4cd65858cb7d95bba7d999457837bfff839837224bc216d19a2", func := "barograph/barographkeep.CountAll", spec := "countAll", unfollowed := true, recurses := true, named := ["barograph/vm.shapes"], apart := false, laid := [("barograph/vm.shapes", laid_barograph_vm_shapes)], narrowed := true }
def CountAllUptoSaid : Prop := countAllUptoRow.holds Tryd.pinned (OpenSpec.upto countAllSpec)

/-- 'barographkeep.CountTells', WHERE WHAT IT READS IS OF BULK AT MOST 1048576: true; the input reads as it did. -/
def countTellsUptoRow : OpenClaim := { program := "ytnoinojhocicjaadoor", sum := "726029a0174ba4cd65858cb7d95bba7d999457837bfff839837224bc216d19a2", func := "barograph/barographkeep.CountTells", spec := "countTells", unfollowed := true, recurses := true, named := ["barograph/vm.shapes"], apart := false, laid := [("barograph/vm.shapes", laid_barograph_vm_shapes)], narrowed := true }
def CountTellsUptoSaid : Prop := countTellsUptoRow.holds Tryd.pinned (OpenSpec.upto countTellsSpec)

/-- 'barographkeep.RwlApart', WHERE WHAT IT READS IS OF BULK AT MOST 1048576: true; the input reads as it did. -/
def rwlApartUptoRow : OpenClaim := { program := "ytnoinojhocicjaadoor", sum := "726029a0174ba4cd65858cb7d95bba7d999457837bfff839837224bc216d19a2", func := "barograph/barographkeep.RwlApart", spec := "rwlApart", unfollowed := true, recurses := true, named := ["barograph/vm.shapes"], apart := false, laid := [("barograph/vm.shapes", laid_barograph_vm_shapes)], narrowed := true }
def RwlApartUptoSaid : Prop := rwlApartUptoRow.holds Tryd.pinned (OpenSpec.upto rwlApartSpec)

/-- 'barographkeep.RwlShares', WHERE WHAT IT READS IS OF BULK AT MOST 1048576: true; the input reads as it did. -/
def rwlSharesUptoRow : OpenClaim := { program := "ytnoinojhocicjaadoor", sum := "726029a0174ba4cd65858cb7d95bba7d999457837bfff839837224bc216d19a2", func := "barograph/barographkeep.RwlShares", spec := "rwlShares", unfollowed := true, recurses := true, named := ["barograph/vm.shapes"], apart := false, laid := [("barograph/vm.shapes", laid_barograph_vm_shapes)], narrowed := true }
def RwlSharesUptoSaid : Prop := rwlSharesUptoRow.holds Tryd.pinned (OpenSpec.upto rwlSharesSpec)

/-- 'barographkeep.BarrTogether', WHERE WHAT IT READS IS OF BULK AT MOST 1048576: true; the input reads as it did. -/
def barrTogetherUptoRow : OpenClaim := { program := "ytnoinojhocicjaadoor", sum := "726029a0174ba4cd65858cb7d95bba7d999457837bfff839837224bc216d19a2", func := "barograph/barographkeep.BarrTogether", spec := "barrTogether", unfollowed := true, recurses := true, named := ["barograph/vm.shapes"], apart := false, laid := [("barograph/vm.shapes", laid_barograph_vm_shapes)], narrowed := true }
def BarrTogetherUptoSaid : Prop := barrTogetherUptoRow.holds Tryd.pinned (OpenSpec.upto barrTogetherSpec)

/-- 'barographkeep.BarrEnds', WHERE WHAT IT READS IS OF BULK AT MOST 1048576: true; the input reads as it did. -/
def barrEndsUptoRow : OpenClaim := { program := "ytnoinojhocicjaadoor", sum := "726029a0174ba4cd65858cb7d95bba7d999457837bfff839837224bc216d19a2", func := "barograph/barographkeep.BarrEnds", spec := "barrEnds", unfollowed := true, recurses := true, named := ["barograph/vm.shapes"], apart := false, laid := [("barograph/vm.shapes", laid_barograph_vm_shapes)], narrowed := true }
def BarrEndsUptoSaid : Prop := barrEndsUptoRow.holds Tryd.pinned (OpenSpec.upto barrEndsSpec)

/-- 'barographkeep.SemaMost', WHERE WHAT IT READS IS OF BULK AT MOST 1048576: true; the input reads as it did. -/
def semaMostUptoRow : OpenClaim := { program := "ytnoinojhocicjaadoor", sum := "726029a0174ba4cd65858cb7d95bba7d999457837bfff839837224bc216d19a2", func := "barograph/barographkeep.SemaMost", spec := "semaMost", unfollowed := true, recurses := true, named := ["barograph/vm.shapes"], apart := false, laid := [("barograph/vm.shapes", laid_barograph_vm_shapes)], narrowed := true }
def SemaMostUptoSaid : Prop := semaMostUptoRow.holds Tryd.pinned (OpenSpec.upto semaMostSpec)

/-- 'barographkeep.SemaEnds', WHERE WHAT IT READS IS OF BULK AT MOST 1048576: true; the input reads as it did. -/
def semaEndsUptoRow : OpenClaim := { program := "ytnoinojhocicjaadoor", sum := "726029a0174ba4cd65858cb7d95bba7d999457837bfff839837224bc216d19a2", func := "barograph/barographkeep.SemaEnds", spec := "semaEnds", unfollowed := true, recurses := true, named := ["barograph/vm.shapes"], apart := false, laid := [("barograph/vm.shapes", laid_barograph_vm_shapes)], narrowed := true }
def SemaEndsUptoSaid : Prop := semaEndsUptoRow.holds Tryd.pinned (OpenSpec.upto semaEndsSpec)

/-- 'barographkeep.SemaFull', WHERE WHAT IT READS IS OF BULK AT MOST 1048576: true; the input reads as it did. -/
def semaFullUptoRow : OpenClaim := { program := "ytnoinojhocicjaadoor", sum := "726029a0174ba4cd65858cb7d95bba7d999457837bfff839837224bc216d19a2", func := "barograph/barographkeep.SemaFull", spec := "semaFull", unfollowed := true, recurses := true, named := ["barograph/vm.shapes"], apart := false, laid := [("barograph/vm.shapes", laid_barograph_vm_shapes)], narrowed := true }
def SemaFullUptoSaid : Prop := semaFullUptoRow.holds Tryd.pinned (OpenSpec.upto semaFullSpec)

end Rows
end Go.Proofs.YtnoinojhocicjaaDoor
