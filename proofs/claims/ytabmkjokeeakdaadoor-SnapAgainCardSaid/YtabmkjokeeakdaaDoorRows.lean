/-
  NARROWER THAN 'FOR EVERY INPUT', by the rows' own cells (each row's printed sentence says how): StackAll: laid · EpochSafe: laid · EpochFrees: laid · EpochHolds: laid · SnapOnce: laid · SnapEnds: laid · SnapTells: laid · SnapAgain: laid · CellWhole: laid · CellEnds: laid.
  DERIVED. THE GIVEN ROWS OF THIS SEAT. 10 by the template 'for every input the law returns true; each argument reads behind the call as it read before'; 0 by the template 'total and deterministic' (their statements: YtabmkjokeeakdaaDoorTotals.lean).
  GIVEN WITH THE SEED: the statements are not yours to turn. If you find one false, say at which input.
  Laid BY PROGRAM, IN A SANDBOX (cutbox-rows.mjs): the forced cells as the released guide's own fill.sh prints them over the translation c9d32dbd622c9bcc… (all of the seat's roots in one cut). By AI agents, Wed Nov 11 2026. No macro, syntax, notation, axiom, sorry.
-/
import Derived.Test.YtabmkjokeeakdaaDoorChecked
import GoSem.Claim
import GoSem.ClaimJoined
import GoSem.ClaimMapViews
import Derived.JoinedTies
import Derived.KernelRfl
namespace Go.Proofs.YtabmkjokeeakdaaDoor
/- THE CELL 'sum', in the pinned program and in every row, IS THE sha256 OF THE DUMP (.gsa) THAT YtabmkjokeeakdaaDoorProg.lean LOADS. Nothing in Lean hashes anything: it is a label: what it is worth is what the hold of that sum in a sandbox is worth. -/
noncomputable def Tryd.pinned : Pinned := { name := "ytabmkjokeeakdaadoor", sum := "c9d32dbd622c9bcce2df27fc3efe6d732ff3b192a7568791d0b80f8283199d12", checked := Tryd.checked }
namespace Rows
def none {H : Type} : Left H := { results := [], args := [] }

/- WHAT THE LISTED PACKAGE-LEVEL VARIABLES READ AS WHEN THE CALL BEGINS. Each datum BY PROGRAM (the guide's laid-datum.mjs) off the statement by which the dump's own 'gosem.cut.vars' lays the variable. In a bare row this is a premise. The card (YtabmkjokeeakdaaDoorCards.lean) ties it to the program's text. -/
def laid_barograph_vm_shapes {H : Type} : DataW H := .agg [.lit (.string []), .lit (.string [114, 110, 45, 45]), .lit (.string [114, 114, 45, 45]), .lit (.string [114, 114, 114, 45]), .lit (.string [114, 114, 114, 45]), .lit (.string [114, 114, 114, 45]), .lit (.string [114, 114, 114, 45]), .lit (.string [114, 114, 114, 45]), .lit (.string [114, 114, 114, 45]), .lit (.string [114, 114, 114, 45]), .lit (.string [112, 45, 45, 45]), .lit (.string [114, 112, 45, 45]), .lit (.string [114, 112, 45, 45]), .lit (.string [114, 114, 110, 45]), .lit (.string [114, 114, 110, 45]), .lit (.string [114, 114, 110, 114]), .lit (.string [114, 45, 45, 45]), .lit (.string [45, 45, 45, 45])]
def laid_math_bits_deBruijn32tab {H : Type} : DataW H := .agg [.lit (.int .u8 0), .lit (.int .u8 1), .lit (.int .u8 28), .lit (.int .u8 2), .lit (.int .u8 29), .lit (.int .u8 14), .lit (.int .u8 24), .lit (.int .u8 3), .lit (.int .u8 30), .lit (.int .u8 22), .lit (.int .u8 20), .lit (.int .u8 15), .lit (.int .u8 25), .lit (.int .u8 17), .lit (.int .u8 4), .lit (.int .u8 8), .lit (.int .u8 31), .lit (.int .u8 27), .lit (.int .u8 13), .lit (.int .u8 23), .lit (.int .u8 21), .lit (.int .u8 19), .lit (.int .u8 16), .lit (.int .u8 7), .lit (.int .u8 26), .lit (.int .u8 12), .lit (.int .u8 18), .lit (.int .u8 6), .lit (.int .u8 11), .lit (.int .u8 5), .lit (.int .u8 10), .lit (.int .u8 9)]
def laid_math_bits_deBruijn64tab {H : Type} : DataW H := .agg [.lit (.int .u8 0), .lit (.int .u8 1), .lit (.int .u8 56), .lit (.int .u8 2), .lit (.int .u8 57), .lit (.int .u8 49), .lit (.int .u8 28), .lit (.int .u8 3), .lit (.int .u8 61), .lit (.int .u8 58), .lit (.int .u8 42), .lit (.int .u8 50), .lit (.int .u8 38), .lit (.int .u8 29), .lit (.int .u8 17), .lit (.int .u8 4), .lit (.int .u8 62), .lit (.int .u8 47), .lit (.int .u8 59), .lit (.int .u8 36), .lit (.int .u8 45), .lit (.int .u8 43), .lit (.int .u8 51), .lit (.int .u8 22), .lit (.int .u8 53), .lit (.int .u8 39), .lit (.int .u8 33), .lit (.int .u8 30), .lit (.int .u8 24), .lit (.int .u8 18), .lit (.int .u8 12), .lit (.int .u8 5), .lit (.int .u8 63), .lit (.int .u8 55), .lit (.int .u8 48), .lit (.int .u8 27), .lit (.int .u8 60), .lit (.int .u8 41), .lit (.int .u8 37), .lit (.int .u8 16), .lit (.int .u8 46), .lit (.int .u8 35), .lit (.int .u8 44), .lit (.int .u8 21), .lit (.int .u8 52), .lit (.int .u8 32), .lit (.int .u8 23), .lit (.int .u8 11), .lit (.int .u8 54), .lit (.int .u8 26), .lit (.int .u8 40), .lit (.int .u8 15), .lit (.int .u8 34), .lit (.int .u8 20), .lit (.int .u8 31), .lit (.int .u8 10), .lit (.int .u8 25), .lit (.int .u8 14), .lit (.int .u8 19), .lit (.int .u8 9), .lit (.int .u8 13), .lit (.int .u8 8), .lit (.int .u8 7), .lit (.int .u8 6)]
def laid_internal_strconv_uint64pow10 {H : Type} : DataW H := .agg [.lit (.int .u64 1), .lit (.int .u64 10), .lit (.int .u64 100), .lit (.int .u64 1000), .lit (.int .u64 10000), .lit (.int .u64 100000), .lit (.int .u64 1000000), .lit (.int .u64 10000000), .lit (.int .u64 100000000), .lit (.int .u64 1000000000), .lit (.int .u64 10000000000), .lit (.int .u64 100000000000), .lit (.int .u64 1000000000000), .lit (.int .u64 10000000000000), .lit (.int .u64 100000000000000), .lit (.int .u64 1000000000000000), .lit (.int .u64 10000000000000000), .lit (.int .u64 100000000000000000), .lit (.int .u64 1000000000000000000), .lit (.int .u64 10000000000000000000)]

/-- 'barographkeep.StackAll': WHATEVER THE INPUT: true; the input reads as it did. -/
def stackAllSpec : ChangeSpec := { name := "stackAll", fn := fun _ => fun
  | [d1, d2, d3] => { results := [.lit (.bool true)], args := [d1, d2, d3] }
  | _ => none }
def stackAllRow : OpenClaim := { program := "ytabmkjokeeakdaadoor", sum := "c9d32dbd622c9bcce2df27fc3efe6d732ff3b192a7568791d0b80f8283199d12", func := "barograph/barographkeep.StackAll", spec := "stackAll", unfollowed := true, recurses := true, named := ["barograph/vm.shapes"], apart := false, laid := [("barograph/vm.shapes", laid_barograph_vm_shapes)] }
def StackAllSaid : Prop := stackAllRow.holds Tryd.pinned (OpenSpec.ofChange stackAllSpec)

/-- ITS FALSE NEIGHBOUR: 'it returns false'. Refute it at one input. -/
def stackAllWrong : ChangeSpec := { name := "stackAll", fn := fun _ => fun
  | [d1, d2, d3] => { results := [.lit (.bool false)], args := [d1, d2, d3] }
  | _ => none }
def StackAllWrongFalsely : Prop := stackAllRow.holds Tryd.pinned (OpenSpec.ofChange stackAllWrong)

/-- 'barographkeep.EpochSafe': WHATEVER THE INPUT: true; the input reads as it did. -/
def epochSafeSpec : ChangeSpec := { name := "epochSafe", fn := fun _ => fun
  | [d1, d2, d3] => { results := [.lit (.bool true)], args := [d1, d2, d3] }
  | _ => none }
def epochSafeRow : OpenClaim := { program := "ytabmkjokeeakdaadoor", sum := "c9d32dbd622c9bcce2df27fc3efe6d732ff3b192a7568791d0b80f8283199d12", func := "barograph/barographkeep.EpochSafe", spec := "epochSafe", unfollowed := true, recurses := true, named := ["barograph/vm.shapes"], apart := false, laid := [("barograph/vm.shapes", laid_barograph_vm_shapes)] }
def EpochSafeSaid : Prop := epochSafeRow.holds Tryd.pinned (OpenSpec.ofChange epochSafeSpec)

/-- ITS FALSE NEIGHBOUR: 'it returns false'. Refute it at one input. -/
def epochSafeWrong : ChangeSpec := { name := "epochSafe", fn := fun _ => fun
  | [d1, d2, d3] => { results := [.lit (.bool false)], args := [d1, d2, d3] }
  | _ => none }
def EpochSafeWrongFalsely : Prop := epochSafeRow.holds Tryd.pinned (OpenSpec.ofChange epochSafeWrong)

/-- 'barographkeep.EpochFrees': WHATEVER THE INPUT: true; the input reads as it did. -/
def epochFreesSpec : ChangeSpec := { name := "epochFrees", fn := fun _ => fun
  | [d1, d2, d3] => { results := [.lit (.bool true)], args := [d1, d2, d3] }
  | _ => none }
def epochFreesRow : OpenClaim := { program := "ytabmkjokeeakdaadoor", sum := "c9d32dbd622c9bcce2df27fc3efe6d732ff3b192a7568791d0b80f8283199d12", func := "barograph/barographkeep.EpochFrees", spec := "epochFrees", unfollowed := true, recurses := true, named := ["barograph/vm.shapes"], apart := false, laid := [("barograph/vm.shapes", laid_barograph_vm_shapes)] }
def EpochFreesSaid : Prop := epochFreesRow.holds Tryd.pinned (OpenSpec.ofChange epochFreesSpec)

/-- ITS FALSE NEIGHBOUR: 'it returns false'. Refute it at one input. -/
def epochFreesWrong : ChangeSpec := { name := "epochFrees", fn := fun _ => fun
  | [d1, d2, d3] => { results := [.lit (.bool false)], args := [d1, d2, d3] }
  | _ => none }
def EpochFreesWrongFalsely : Prop := epochFreesRow.holds Tryd.pinned (OpenSpec.ofChange epochFreesWrong)

/-- 'barographkeep.EpochHolds': WHATEVER THE INPUT: true; the input reads as it did. -/
def epochHoldsSpec : ChangeSpec := { name := "epochHolds", fn := fun _ => fun
  | [d1, d2] => { results := [.lit (.bool true)], args := [d1, d2] }
  | _ => none }
def epochHoldsRow : OpenClaim := { program := "ytabmkjokeeakdaadoor", sum := "c9d32dbd622c9bcce2df27fc3efe6d732ff3b192a7568791d0b80f8283199d12", func := "barograph/barographkeep.EpochHolds", spec := "epochHolds", unfollowed := true, recurses := true, named := ["barograph/vm.shapes"], apart := false, laid := [("barograph/vm.shapes", laid_barograph_vm_shapes)] }
def EpochHoldsSaid : Prop := epochHoldsRow.holds Tryd.pinned (OpenSpec.ofChange epochHoldsSpec)

/-- ITS FALSE NEIGHBOUR: 'it returns false'. Refute it at one input. -/
def epochHoldsWrong : ChangeSpec := { name := "epochHolds", fn := fun _ => fun
  | [d1, d2] => { results := [.lit (.bool false)], args := [d1, d2] }
  | _ => none }
def EpochHoldsWrongFalsely : Prop := epochHoldsRow.holds Tryd.pinned (OpenSpec.ofChange epochHoldsWrong)

/-- 'barographkeep.SnapOnce': WHATEVER THE INPUT: true; the input reads as it did. -/
def snapOnceSpec : ChangeSpec := { name := "snapOnce", fn := fun _ => fun
  | [d1, d2, d3] => { results := [.lit (.bool true)], args := [d1, d2, d3] }
  | _ => none }
def snapOnceRow : OpenClaim := { program := "ytabmkjokeeakdaadoor", sum := "c9d32dbd622c9bcce2df27fc3efe6d732ff3b192a7568791d0b80f8283199d12", func := "barograph/barographkeep.SnapOnce", spec := "snapOnce", unfollowed := true, recurses := true, named := ["internal/strconv.uint64pow10", "math/bits.deBruijn32tab", "math/bits.deBruijn64tab", "barograph/vm.shapes"], apart := false, laid := [("math/bits.deBruijn32tab", laid_math_bits_deBruijn32tab), ("math/bits.deBruijn64tab", laid_math_bits_deBruijn64tab), ("internal/strconv.uint64pow10", laid_internal_strconv_uint64pow10), ("barograph/vm.shapes", laid_barograph_vm_shapes)] }
def SnapOnceSaid : Prop := snapOnceRow.holds Tryd.pinned (OpenSpec.ofChange snapOnceSpec)

/-- ITS FALSE NEIGHBOUR: 'it returns false'. Refute it at one input. -/
def snapOnceWrong : ChangeSpec := { name := "snapOnce", fn := fun _ => fun
  | [d1, d2, d3] => { results := [.lit (.bool false)], args := [d1, d2, d3] }
  | _ => none }
def SnapOnceWrongFalsely : Prop := snapOnceRow.holds Tryd.pinned (OpenSpec.ofChange snapOnceWrong)

/-- 'barographkeep.SnapEnds': WHATEVER THE INPUT: true; the input reads as it did. -/
def snapEndsSpec : ChangeSpec := { name := "snapEnds", fn := fun _ => fun
  | [d1, d2, d3] => { results := [.lit (.bool true)], args := [d1, d2, d3] }
  | _ => none }
def snapEndsRow : OpenClaim := { program := "ytabmkjokeeakdaadoor", sum := "c9d32dbd622c9bcce2df27fc3efe6d732ff3b192a7568791d0b80f8283199d12", func := "barograph/barographkeep.SnapEnds", spec := "snapEnds", unfollowed := true, recurses := true, named := ["internal/strconv.uint64pow10", "math/bits.deBruijn32tab", "math/bits.deBruijn64tab", "barograph/vm.shapes"], apart := false, laid := [("math/bits.deBruijn32tab", laid_math_bits_deBruijn32tab), ("math/bits.deBruijn64tab", laid_math_bits_deBruijn64tab), ("internal/strconv.uint64pow10", laid_internal_strconv_uint64pow10), ("barograph/vm.shapes", laid_barograph_vm_shapes)] }
def SnapEndsSaid : Prop := snapEndsRow.holds Tryd.pinned (OpenSpec.ofChange snapEndsSpec)

/-- ITS FALSE NEIGHBOUR: 'it returns false'. Refute it at one input. -/
def snapEndsWrong : ChangeSpec := { name := "snapEnds", fn := fun _ => fun
  | [d1, d2, d3] => { results := [.lit (.bool false)], args := [d1, d2, d3] }
  | _ => none }
def SnapEndsWrongFalsely : Prop := snapEndsRow.holds Tryd.pinned (OpenSpec.ofChange snapEndsWrong)

/-- 'barographkeep.SnapTells': WHATEVER THE INPUT: true; the input reads as it did. -/
def snapTellsSpec : ChangeSpec := { name := "snapTells", fn := fun _ => fun
  | [d1, d2, d3] => { results := [.lit (.bool true)], args := [d1, d2, d3] }
  | _ => none }
def snapTellsRow : OpenClaim := { program := "ytabmkjokeeakdaadoor", sum := "c9d32dbd622c9bcce2df27fc3efe6d732ff3b192a7568791d0b80f8283199d12", func := "barograph/barographkeep.SnapTells", spec := "snapTells", unfollowed := true, recurses := true, named := ["internal/strconv.uint64pow10", "math/bits.deBruijn32tab", "math/bits.deBruijn64tab", "barograph/vm.shapes"], apart := false, laid := [("math/bits.deBruijn32tab", laid_math_bits_deBruijn32tab), ("math/bits.deBruijn64tab", laid_math_bits_deBruijn64tab), ("internal/strconv.uint64pow10", laid_internal_strconv_uint64pow10), ("barograph/vm.shapes", laid_barograph_vm_shapes)] }
def SnapTellsSaid : Prop := snapTellsRow.holds Tryd.pinned (OpenSpec.ofChange snapTellsSpec)

/-- ITS FALSE NEIGHBOUR: 'it returns false'. Refute it at one input. -/
def snapTellsWrong : ChangeSpec := { name := "snapTells", fn := fun _ => fun
  | [d1, d2, d3] => { results := [.lit (.bool false)], args := [d1, d2, d3] }
  | _ => none }
def SnapTellsWrongFalsely : Prop := snapTellsRow.holds Tryd.pinned (OpenSpec.ofChange snapTellsWrong)

/-- 'barographkeep.SnapAgain': WHATEVER THE INPUT: true; the input reads as it did. -/
def snapAgainSpec : ChangeSpec := { name := "snapAgain", fn := fun _ => fun
  | [d1, d2, d3] => { results := [.lit (.bool true)], args := [d1, d2, d3] }
  | _ => none }
def snapAgainRow : OpenClaim := { program := "ytabmkjokeeakdaadoor", sum := "c9d32dbd622c9bcce2df27fc3efe6d732ff3b192a7568791d0b80f8283199d12", func := "barograph/barographkeep.SnapAgain", spec := "snapAgain", unfollowed := true, recurses := true, named := ["internal/strconv.uint64pow10", "math/bits.deBruijn32tab", "math/bits.deBruijn64tab", "barograph/vm.shapes"], apart := false, laid := [("math/bits.deBruijn32tab", laid_math_bits_deBruijn32tab), ("math/bits.deBruijn64tab", laid_math_bits_deBruijn64tab), ("internal/strconv.uint64pow10", laid_internal_strconv_uint64pow10), ("barograph/vm.shapes", laid_barograph_vm_shapes)] }
def SnapAgainSaid : Prop := snapAgainRow.holds Tryd.pinned (OpenSpec.ofChange snapAgainSpec)

/-- ITS FALSE NEIGHBOUR: 'it returns false'. Refute it at one input. -/
def snapAgainWrong : ChangeSpec := { name := "snapAgain", fn := fun _ => fun
  | [d1, d2, d3] => { results := [.lit (.bool false)], args := [d1, d2, d3] }
  | _ => none }
def SnapAgainWrongFalsely : Prop := snapAgainRow.holds Tryd.pinned (OpenSpec.ofChange snapAgainWrong)

/-- 'barographkeep.CellWhole': WHATEVER THE INPUT: true; the input reads as it did. -/
def cellWholeSpec : ChangeSpec := { name := "cellWhole", fn := fun _ => fun
  | [d1, d2] => { results := [.lit (.bool true)], args := [d1, d2] }
  | _ => none }
def cellWholeRow : OpenClaim := { program := "ytabmkjokeeakdaadoor", sum := "c9d32dbd622c9bcce2df27fc3efe6d732ff3b192a7568791d0b80f8283199d12", func := "barograph/barographkeep.CellWhole", spec := "cellWhole", unfollowed := true, recurses := true, named := ["internal/strconv.uint64pow10", "math/bits.deBruijn32tab", "math/bits.deBruijn64tab", "barograph/vm.shapes"], apart := false, laid := [("math/bits.deBruijn32tab", laid_math_bits_deBruijn32tab), ("math/bits.deBruijn64tab", laid_math_bits_deBruijn64tab), ("internal/strconv.uint64pow10", laid_internal_strconv_uint64pow10), ("barograph/vm.shapes", laid_barograph_vm_shapes)] }
def CellWholeSaid : Prop := cellWholeRow.holds Tryd.pinned (OpenSpec.ofChange cellWholeSpec)

/-- ITS FALSE NEIGHBOUR: 'it returns false'. Refute it at one input. -/
def cellWholeWrong : ChangeSpec := { name := "cellWhole", fn := fun _ => fun
  | [d1, d2] => { results := [.lit (.bool false)], args := [d1, d2] }
  | _ => none }
def CellWholeWrongFalsely : Prop := cellWholeRow.holds Tryd.pinned (OpenSpec.ofChange cellWholeWrong)

/-- 'barographkeep.CellEnds': WHATEVER THE INPUT: true; the input reads as it did. -/
def cellEndsSpec : ChangeSpec := { name := "cellEnds", fn := fun _ => fun
  | [d1, d2] => { results := [.lit (.bool true)], args := [d1, d2] }
  | _ => none }
def cellEndsRow : OpenClaim := { program := "ytabmkjokeeakdaadoor", sum := "c9d32dbd622c9bcce2df27fc3efe6d732ff3b192a7568791d0b80f8283199d12", func := "barograph/barographkeep.CellEnds", spec := "cellEnds", unfollowed := true, recurses := true, named := ["internal/strconv.uint64pow10", "math/bits.deBruijn32tab", "math/bits.deBruijn64tab", "barograph/vm.shapes"], apart := false, laid := [("math/bits.deBruijn32tab", laid_math_bits_deBruijn32tab), ("math/bits.deBruijn64tab", laid_math_bits_deBruijn64tab), ("internal/strconv.uint64pow10", laid_internal_strconv_uint64pow10), ("barograph/vm.shapes", laid_barograph_vm_shapes)] }
def CellEndsSaid : Prop := cellEndsRow.holds Tryd.pinned (OpenSpec.ofChange cellEndsSpec)

/-- ITS FALSE NEIGHBOUR: 'it returns false'. Refute it at one input. -/
def cellEndsWrong : ChangeSpec := { name := "cellEnds", fn := fun _ => fun
  | [d1, d2] => { results := [.lit (.bool false)], args := [d1, d2] }
  | _ => none }
def CellEndsWrongFalsely : Prop := cellEndsRow.holds Tryd.pinned (OpenSpec.ofChange cellEndsWrong)

/- THE SECOND FORM. 'bulk': how many values and letters a reading holds, each counted each time it is reached (what is shared counts as often as it is met; a slice's spare places count too). A statement '..UptoSaid' is the law's where the arguments, and the package variables that the reading takes, are together of bulk at most 1048576: NARROWER than '..Said'. Prove '..Said' where nothing that the law and all that it calls make is longer than what came in: it says more and counts as full. Else prove '..UptoSaid'. A law counts once. -/
mutual
def uptoBulk {H : Type} : DataW H → Nat
  | .lit (.string bytes) => bytes.length + 1
  | .lit _ => 1
  | .nil => 1
  | .ptr d => uptoBulk d + 1
  | .slice elems spare => uptoBulkAll elems + uptoBulkAll spare + 1
  | .agg parts => uptoBulkAll parts + 1
  | .iface _ d => uptoBulk d + 1
  | .map entries => uptoBulkEntries entries + 1
  | .held _ => 1
def uptoBulkAll {H : Type} : List (DataW H) → Nat
  | [] => 0
  | d :: r => uptoBulk d + uptoBulkAll r
def uptoBulkEntries {H : Type} : List (Lit × DataW H) → Nat
  | [] => 0
  | x :: r => uptoBulkEntry x + uptoBulkEntries r
def uptoBulkEntry {H : Type} : Lit × DataW H → Nat
  | (.string bytes, d) => bytes.length + uptoBulk d + 1
  | (_, d) => uptoBulk d + 1
 end
def uptoSmall : (H : Type) → List (DataW H) → Bool := fun _ ds => decide (uptoBulkAll ds ≤ 1048576)
def OpenSpec.upto (s : _root_.Go.ChangeSpec) : _root_.Go.OpenSpec := { _root_.Go.OpenSpec.ofChange s with cond := some uptoSmall }

/-- 'barographkeep.StackAll', WHERE WHAT IT READS IS OF BULK AT MOST 1048576: true; the input reads as it did. -/
def stackAllUptoRow : OpenClaim := { program := "ytabmkjokeeakdaadoor", sum := "c9d32dbd622c9bcce2df27fc3efe6d732ff3b192a7568791d0b80f8283199d12", func := "barograph/barographkeep.StackAll", spec := "stackAll", unfollowed := true, recurses := true, named := ["barograph/vm.shapes"], apart := false, laid := [("barograph/vm.shapes", laid_barograph_vm_shapes)], narrowed := true }
def StackAllUptoSaid : Prop := stackAllUptoRow.holds Tryd.pinned (OpenSpec.upto stackAllSpec)

/-- 'barographkeep.EpochSafe', WHERE WHAT IT READS IS OF BULK AT MOST 1048576: true; the input reads as it did. -/
def epochSafeUptoRow : OpenClaim := { program := "ytabmkjokeeakdaadoor", sum := "c9d32dbd622c9bcce2df27fc3efe6d732ff3b192a7568791d0b80f8283199d12", func := "barograph/barographkeep.EpochSafe", spec := "epochSafe", unfollowed := true, recurses := true, named := ["barograph/vm.shapes"], apart := false, laid := [("barograph/vm.shapes", laid_barograph_vm_shapes)], narrowed := true }
def EpochSafeUptoSaid : Prop := epochSafeUptoRow.holds Tryd.pinned (OpenSpec.upto epochSafeSpec)

/-- 'barographkeep.EpochFrees', WHERE WHAT IT READS IS OF BULK AT MOST 1048576: true; the input reads as it did. -/
def epochFreesUptoRow : OpenClaim := { program := "ytabmkjokeeakdaadoor", sum := "c9d32dbd622c9bcce2df27fc3efe6d732ff3b192a7568791d0b80f8283199d12", func := "barograph/barographkeep.EpochFrees", spec := "epochFrees", unfollowed := true, recurses := true, named := ["barograph/vm.shapes"], apart := false, laid := [("barograph/vm.shapes", laid_barograph_vm_shapes)], narrowed := true }
def EpochFreesUptoSaid : Prop := epochFreesUptoRow.holds Tryd.pinned (OpenSpec.upto epochFreesSpec)

/-- 'barographkeep.EpochHolds', WHERE WHAT IT READS IS OF BULK AT MOST 1048576: true; the input reads as it did. -/
def epochHoldsUptoRow : OpenClaim := { program := "ytabmkjokeeakdaadoor", sum := "c9d32dbd622c9bcce2df27fc3efe6d732ff3b192a7568791d0b80f8283199d12", func := "barograph/barographkeep.EpochHolds", spec := "epochHolds", unfollowed := true, recurses := true, named := ["barograph/vm.shapes"], apart := false, laid := [("barograph/vm.shapes", laid_barograph_vm_shapes)], narrowed := true }
def EpochHoldsUptoSaid : Prop := epochHoldsUptoRow.holds Tryd.pinned (OpenSpec.upto epochHoldsSpec)

/-- 'barographkeep.SnapOnce', WHERE WHAT IT READS IS OF BULK AT MOST 1048576: true; the input reads as it did. -/
def snapOnceUptoRow : OpenClaim := { program := "ytabmkjokeeakdaadoor", sum := "c9d32dbd622c9bcce2df27fc3efe6d732ff3b192a7568791d0b80f8283199d12", func := "barograph/barographkeep.SnapOnce", spec := "snapOnce", unfollowed := true, recurses := true, named := ["internal/strconv.uint64pow10", "math/bits.deBruijn32tab", "math/bits.deBruijn64tab", "barograph/vm.shapes"], apart := false, laid := [("math/bits.deBruijn32tab", laid_math_bits_deBruijn32tab), ("math/bits.deBruijn64tab", laid_math_bits_deBruijn64tab), ("internal/strconv.uint64pow10", laid_internal_strconv_uint64pow10), ("barograph/vm.shapes", laid_barograph_vm_shapes)], narrowed := true }
def SnapOnceUptoSaid : Prop := snapOnceUptoRow.holds Tryd.pinned (OpenSpec.upto snapOnceSpec)

/-- 'barographkeep.SnapEnds', WHERE WHAT IT READS IS OF BULK AT MOST 1048576: true; the input reads as it did. -/
def snapEndsUptoRow : OpenClaim := { program := "ytabmkjokeeakdaadoor", sum := "c9d32dbd622c9bcce2df27fc3efe6d732ff3b192a7568791d0b80f8283199d12", func := "barograph/barographkeep.SnapEnds", spec := "snapEnds", unfollowed := true, recurses := true, named := ["internal/strconv.uint64pow10", "math/bits.deBruijn32tab", "math/bits.deBruijn64tab", "barograph/vm.shapes"], apart := false, laid := [("math/bits.deBruijn32tab", laid_math_bits_deBruijn32tab), ("math/bits.deBruijn64tab", laid_math_bits_deBruijn64tab), ("internal/strconv.uint64pow10", laid_internal_strconv_uint64pow10), ("barograph/vm.shapes", laid_barograph_vm_shapes)], narrowed := true }
def SnapEndsUptoSaid : Prop := snapEndsUptoRow.holds Tryd.pinned (OpenSpec.upto snapEndsSpec)

/-- 'barographkeep.SnapTells', WHERE WHAT IT READS IS OF BULK AT MOST 1048576: true; the input reads as it did. -/
def snapTellsUptoRow : OpenClaim := { program := "ytabmkjokeeakdaadoor", sum := "c9d32dbd622c9bcce2df27fc3efe6d732ff3b192a7568791d0b80f8283199d12", func := "barograph/barographkeep.SnapTells", spec := "snapTells", unfollowed := true, recurses := true, named := ["internal/strconv.uint64pow10", "math/bits.deBruijn32tab", "math/bits.deBruijn64tab", "barograph/vm.shapes"], apart := false, laid := [("math/bits.deBruijn32tab", laid_math_bits_deBruijn32tab), ("math/bits.deBruijn64tab", laid_math_bits_deBruijn64tab), ("internal/strconv.uint64pow10", laid_internal_strconv_uint64pow10), ("barograph/vm.shapes", laid_barograph_vm_shapes)], narrowed := true }
def SnapTellsUptoSaid : Prop := snapTellsUptoRow.holds Tryd.pinned (OpenSpec.upto snapTellsSpec)

/-- 'barographkeep.SnapAgain', WHERE WHAT IT READS IS OF BULK AT MOST 1048576: true; the input reads as it did. -/
def snapAgainUptoRow : OpenClaim := { program := "ytabmkjokeeakdaadoor", sum := "c9d32dbd622c9bcce2df27fc3efe6d732ff3b192a7568791d0b80f8283199d12", func := "barograph/barographkeep.SnapAgain", spec := "snapAgain", unfollowed := true, recurses := true, named := ["internal/strconv.uint64pow10", "math/bits.deBruijn32tab", "math/bits.deBruijn64tab", "barograph/vm.shapes"], apart := false, laid := [("math/bits.deBruijn32tab", laid_math_bits_deBruijn32tab), ("math/bits.deBruijn64tab", laid_math_bits_deBruijn64tab), ("internal/strconv.uint64pow10", laid_internal_strconv_uint64pow10), ("barograph/vm.shapes", laid_barograph_vm_shapes)], narrowed := true }
def SnapAgainUptoSaid : Prop := snapAgainUptoRow.holds Tryd.pinned (OpenSpec.upto snapAgainSpec)

/-- 'barographkeep.CellWhole', WHERE WHAT IT READS IS OF BULK AT MOST 1048576: true; the input reads as it did. -/
def cellWholeUptoRow : OpenClaim := { program := "ytabmkjokeeakdaadoor", sum := "c9d32dbd622c9bcce2df27fc3efe6d732ff3b192a7568791d0b80f8283199d12", func := "barograph/barographkeep.CellWhole", spec := "cellWhole", unfollowed := true, recurses := true, named := ["internal/strconv.uint64pow10", "math/bits.deBruijn32tab", "math/bits.deBruijn64tab", "barograph/vm.shapes"], apart := false, laid := [("math/bits.deBruijn32tab", laid_math_bits_deBruijn32tab), ("math/bits.deBruijn64tab", laid_math_bits_deBruijn64tab), ("internal/strconv.uint64pow10", laid_internal_strconv_uint64pow10), ("barograph/vm.shapes", laid_barograph_vm_shapes)], narrowed := true }
def CellWholeUptoSaid : Prop := cellWholeUptoRow.holds Tryd.pinned (OpenSpec.upto cellWholeSpec)

/-- 'barographkeep.CellEnds', WHERE WHAT IT READS IS OF BULK AT MOST 1048576: true; the input reads as it did. -/
def cellEndsUptoRow : OpenClaim := { program := "ytabmkjokeeakdaadoor", sum := "c9d32dbd622c9bcce2df27fc3efe6d732ff3b192a7568791d0b80f8283199d12", func := "barograph/barographkeep.CellEnds", spec := "cellEnds", unfollowed := true, recurses := true, named := ["internal/strconv.uint64pow10", "math/bits.deBruijn32tab", "math/bits.deBruijn64tab", "barograph/vm.shapes"], apart := false, laid := [("math/bits.deBruijn32tab", laid_math_bits_deBruijn32tab), ("math/bits.deBruijn64tab", laid_math_bits_deBruijn64tab), ("internal/strconv.uint64pow10", laid_internal_strconv_uint64pow10), ("barograph/vm.shapes", laid_barograph_vm_shapes)], narrowed := true }
def CellEndsUptoSaid : Prop := cellEndsUptoRow.holds Tryd.pinned (OpenSpec.upto cellEndsSpec)

end Rows
end Go.Proofs.YtabmkjokeeakdaaDoor
