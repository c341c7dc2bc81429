/-
  NARROWER THAN 'FOR EVERY INPUT', by the rows' own cells (each row's printed sentence says how): TopGuardSema: laid · TopGuardLock: laid · RingOrder: laid · RingFull: laid · RingTells: laid · QueueLinear: laid · QueueTells: laid · QueueOrder: laid · StackLinear: laid · StackAll: laid · StackTells: laid · LockOne: laid · LockEnds: laid · LockAlone: laid.
  DERIVED. THE GIVEN ROWS OF THIS SEAT. 14 by the template 'for every input the law returns true; each argument reads behind the call as it read before'; 0 by the template 'total and deterministic' (their statements: YtiinnkdhccgelaaDoorTotals.lean).
  GIVEN WITH THE SEED: the statements are not yours to turn. If you find one false, say at which input.
  Laid BY PROGRAM, IN A SANDBOX (cutbox-rows.mjs): the forced cells as the released guide's own fill.sh prints them over the translation af84a12bf66bca2c… (all of the seat's roots in one cut). By AI agents, Wed Nov 11 2026. No macro, syntax, notation, axiom, sorry.
-/
import Derived.Test.YtiinnkdhccgelaaDoorChecked
import GoSem.Claim
import GoSem.ClaimJoined
import GoSem.ClaimMapViews
import Derived.JoinedTies
import Derived.KernelRfl
namespace Go.Proofs.YtiinnkdhccgelaaDoor
/- THE CELL 'sum', in the pinned program and in every row, IS THE sha256 OF THE DUMP (.gsa) THAT YtiinnkdhccgelaaDoorProg.lean LOADS. Nothing in Lean hashes anything: it is a label: what it is worth is what the hold of that sum in a sandbox is worth. -/
noncomputable def Tryd.pinned : Pinned := { name := "ytiinnkdhccgelaadoor", sum := "af84a12bf66bca2c19b6c412fa6ee5434285099d5db14a1eb201eb060e1d182a", checked := Tryd.checked }
namespace Rows
def none {H : Type} : Left H := { results := [], args := [] }

/- WHAT THE LISTED PACKAGE-LEVEL VARIABLES READ AS WHEN THE CALL BEGINS. Each datum BY PROGRAM (the guide's laid-datum.mjs) off the statement by which the dump's own 'gosem.cut.vars' lays the variable. In a bare row this is a premise. The card (YtiinnkdhccgelaaDoorCards.lean) ties it to the program's text. -/
def laid_barograph_vm_shapes {H : Type} : DataW H := .agg [.lit (.string []), .lit (.string [114, 110, 45, 45]), .lit (.string [114, 114, 45, 45]), .lit (.string [114, 114, 114, 45]), .lit (.string [114, 114, 114, 45]), .lit (.string [114, 114, 114, 45]), .lit (.string [114, 114, 114, 45]), .lit (.string [114, 114, 114, 45]), .lit (.string [114, 114, 114, 45]), .lit (.string [114, 114, 114, 45]), .lit (.string [112, 45, 45, 45]), .lit (.string [114, 112, 45, 45]), .lit (.string [114, 112, 45, 45]), .lit (.string [114, 114, 110, 45]), .lit (.string [114, 114, 110, 45]), .lit (.string [114, 114, 110, 114]), .lit (.string [114, 45, 45, 45]), .lit (.string [45, 45, 45, 45])]
def laid_math_bits_deBruijn32tab {H : Type} : DataW H := .agg [.lit (.int .u8 0), .lit (.int .u8 1), .lit (.int .u8 28), .lit (.int .u8 2), .lit (.int .u8 29), .lit (.int .u8 14), .lit (.int .u8 24), .lit (.int .u8 3), .lit (.int .u8 30), .lit (.int .u8 22), .lit (.int .u8 20), .lit (.int .u8 15), .lit (.int .u8 25), .lit (.int .u8 17), .lit (.int .u8 4), .lit (.int .u8 8), .lit (.int .u8 31), .lit (.int .u8 27), .lit (.int .u8 13), .lit (.int .u8 23), .lit (.int .u8 21), .lit (.int .u8 19), .lit (.int .u8 16), .lit (.int .u8 7), .lit (.int .u8 26), .lit (.int .u8 12), .lit (.int .u8 18), .lit (.int .u8 6), .lit (.int .u8 11), .lit (.int .u8 5), .lit (.int .u8 10), .lit (.int .u8 9)]
def laid_math_bits_deBruijn64tab {H : Type} : DataW H := .agg [.lit (.int .u8 0), .lit (.int .u8 1), .lit (.int .u8 56), .lit (.int .u8 2), .lit (.int .u8 57), .lit (.int .u8 49), .lit (.int .u8 28), .lit (.int .u8 3), .lit (.int .u8 61), .lit (.int .u8 58), .lit (.int .u8 42), .lit (.int .u8 50), .lit (.int .u8 38), .lit (.int .u8 29), .lit (.int .u8 17), .lit (.int .u8 4), .lit (.int .u8 62), .lit (.int .u8 47), .lit (.int .u8 59), .lit (.int .u8 36), .lit (.int .u8 45), .lit (.int .u8 43), .lit (.int .u8 51), .lit (.int .u8 22), .lit (.int .u8 53), .lit (.int .u8 39), .lit (.int .u8 33), .lit (.int .u8 30), .lit (.int .u8 24), .lit (.int .u8 18), .lit (.int .u8 12), .lit (.int .u8 5), .lit (.int .u8 63), .lit (.int .u8 55), .lit (.int .u8 48), .lit (.int .u8 27), .lit (.int .u8 60), .lit (.int .u8 41), .lit (.int .u8 37), .lit (.int .u8 16), .lit (.int .u8 46), .lit (.int .u8 35), .lit (.int .u8 44), .lit (.int .u8 21), .lit (.int .u8 52), .lit (.int .u8 32), .lit (.int .u8 23), .lit (.int .u8 11), .lit (.int .u8 54), .lit (.int .u8 26), .lit (.int .u8 40), .lit (.int .u8 15), .lit (.int .u8 34), .lit (.int .u8 20), .lit (.int .u8 31), .lit (.int .u8 10), .lit (.int .u8 25), .lit (.int .u8 14), .lit (.int .u8 19), .lit (.int .u8 9), .lit (.int .u8 13), .lit (.int .u8 8), .lit (.int .u8 7), .lit (.int .u8 6)]
def laid_internal_strconv_uint64pow10 {H : Type} : DataW H := .agg [.lit (.int .u64 1), .lit (.int .u64 10), .lit (.int .u64 100), .lit (.int .u64 1000), .lit (.int .u64 10000), .lit (.int .u64 100000), .lit (.int .u64 1000000), .lit (.int .u64 10000000), .lit (.int .u64 100000000), .lit (.int .u64 1000000000), .lit (.int .u64 10000000000), .lit (.int .u64 100000000000), .lit (.int .u64 1000000000000), .lit (.int .u64 10000000000000), .lit (.int .u64 100000000000000), .lit (.int .u64 1000000000000000), .lit (.int .u64 10000000000000000), .lit (.int .u64 100000000000000000), .lit (.int .u64 1000000000000000000), .lit (.int .u64 10000000000000000000)]

/-- 'barographtop.TopGuardSema': WHATEVER THE INPUT: true; the input reads as it did. -/
def topGuardSemaSpec : ChangeSpec := { name := "topGuardSema", fn := fun _ => fun
  | [d1, d2] => { results := [.lit (.bool true)], args := [d1, d2] }
  | _ => none }
def topGuardSemaRow : OpenClaim := { program := "ytiinnkdhccgelaadoor", sum := "af84a12bf66bca2c19b6c412fa6ee5434285099d5db14a1eb201eb060e1d182a", func := "barograph/barographtop.TopGuardSema", spec := "topGuardSema", unfollowed := true, recurses := true, named := ["barograph/vm.shapes"], apart := false, laid := [("barograph/vm.shapes", laid_barograph_vm_shapes)] }
def TopGuardSemaSaid : Prop := topGuardSemaRow.holds Tryd.pinned (OpenSpec.ofChange topGuardSemaSpec)

/-- ITS FALSE NEIGHBOUR: 'it returns false'. Refute it at one input. -/
def topGuardSemaWrong : ChangeSpec := { name := "topGuardSema", fn := fun _ => fun
  | [d1, d2] => { results := [.lit (.bool false)], args := [d1, d2] }
  | _ => none }
def TopGuardSemaWrongFalsely : Prop := topGuardSemaRow.holds Tryd.pinned (OpenSpec.ofChange topGuardSemaWrong)

/-- 'barographtop.TopGuardLock': WHATEVER THE INPUT: true; the input reads as it did. -/
def topGuardLockSpec : ChangeSpec := { name := "topGuardLock", fn := fun _ => fun
  | [d1, d2] => { results := [.lit (.bool true)], args := [d1, d2] }
  | _ => none }
def topGuardLockRow : OpenClaim := { program := "ytiinnkdhccgelaadoor", sum := "af84a12bf66bca2c19b6c412fa6ee5434285099d5db14a1eb201eb060e1d182a", func := "barograph/barographtop.TopGuardLock", spec := "topGuardLock", unfollowed := true, recurses := true, named := ["internal/strconv.uint64pow10", "math/bits.deBruijn32tab", "math/bits.deBruijn64tab", "barograph/vm.shapes"], apart := false, laid := [("math/bits.deBruijn32tab", laid_math_bits_deBruijn32tab), ("math/bits.deBruijn64tab", laid_math_bits_deBruijn64tab), ("internal/strconv.uint64pow10", laid_internal_strconv_uint64pow10), ("barograph/vm.shapes", laid_barograph_vm_shapes)] }
def TopGuardLockSaid : Prop := topGuardLockRow.holds Tryd.pinned (OpenSpec.ofChange topGuardLockSpec)

/-- ITS FALSE NEIGHBOUR: 'it returns false'. Refute it at one input. -/
def topGuardLockWrong : ChangeSpec := { name := "topGuardLock", fn := fun _ => fun
  | [d1, d2] => { results := [.lit (.bool false)], args := [d1, d2] }
  | _ => none }
def TopGuardLockWrongFalsely : Prop := topGuardLockRow.holds Tryd.pinned (OpenSpec.ofChange topGuardLockWrong)

/-- 'barographkeep.RingOrder': WHATEVER THE INPUT: true; the input reads as it did. -/
def ringOrderSpec : ChangeSpec := { name := "ringOrder", fn := fun _ => fun
  | [d1, d2] => { results := [.lit (.bool true)], args := [d1, d2] }
  | _ => none }
def ringOrderRow : OpenClaim := { program := "ytiinnkdhccgelaadoor", sum := "af84a12bf66bca2c19b6c412fa6ee5434285099d5db14a1eb201eb060e1d182a", func := "barograph/barographkeep.RingOrder", spec := "ringOrder", unfollowed := true, recurses := true, named := ["barograph/vm.shapes"], apart := false, laid := [("barograph/vm.shapes", laid_barograph_vm_shapes)] }
def RingOrderSaid : Prop := ringOrderRow.holds Tryd.pinned (OpenSpec.ofChange ringOrderSpec)

/-- ITS FALSE NEIGHBOUR: 'it returns false'. Refute it at one input. -/
def ringOrderWrong : ChangeSpec := { name := "ringOrder", fn := fun _ => fun
  | [d1, d2] => { results := [.lit (.bool false)], args := [d1, d2] }
  | _ => none }
def RingOrderWrongFalsely : Prop := ringOrderRow.holds Tryd.pinned (OpenSpec.ofChange ringOrderWrong)

/-- 'barographkeep.RingFull': WHATEVER THE INPUT: true; the input reads as it did. -/
def ringFullSpec : ChangeSpec := { name := "ringFull", fn := fun _ => fun
  | [d1, d2] => { results := [.lit (.bool true)], args := [d1, d2] }
  | _ => none }
def ringFullRow : OpenClaim := { program := "ytiinnkdhccgelaadoor", sum := "af84a12bf66bca2c19b6c412fa6ee5434285099d5db14a1eb201eb060e1d182a", func := "barograph/barographkeep.RingFull", spec := "ringFull", unfollowed := true, recurses := true, named := ["barograph/vm.shapes"], apart := false, laid := [("barograph/vm.shapes", laid_barograph_vm_shapes)] }
def RingFullSaid : Prop := ringFullRow.holds Tryd.pinned (OpenSpec.ofChange ringFullSpec)

/-- ITS FALSE NEIGHBOUR: 'it returns false'. Refute it at one input. -/
def ringFullWrong : ChangeSpec := { name := "ringFull", fn := fun _ => fun
  | [d1, d2] => { results := [.lit (.bool false)], args := [d1, d2] }
  | _ => none }
def RingFullWrongFalsely : Prop := ringFullRow.holds Tryd.pinned (OpenSpec.ofChange ringFullWrong)

/-- 'barographkeep.RingTells': WHATEVER THE INPUT: true; the input reads as it did. -/
def ringTellsSpec : ChangeSpec := { name := "ringTells", fn := fun _ => fun
  | [d1, d2] => { results := [.lit (.bool true)], args := [d1, d2] }
  | _ => none }
def ringTellsRow : OpenClaim := { program := "ytiinnkdhccgelaadoor", sum := "af84a12bf66bca2c19b6c412fa6ee5434285099d5db14a1eb201eb060e1d182a", func := "barograph/barographkeep.RingTells", spec := "ringTells", unfollowed := true, recurses := true, named := ["barograph/vm.shapes"], apart := false, laid := [("barograph/vm.shapes", laid_barograph_vm_shapes)] }
def RingTellsSaid : Prop := ringTellsRow.holds Tryd.pinned (OpenSpec.ofChange ringTellsSpec)

/-- ITS FALSE NEIGHBOUR: 'it returns false'. Refute it at one input. -/
def ringTellsWrong : ChangeSpec := { name := "ringTells", fn := fun _ => fun
  | [d1, d2] => { results := [.lit (.bool false)], args := [d1, d2] }
  | _ => none }
def RingTellsWrongFalsely : Prop := ringTellsRow.holds Tryd.pinned (OpenSpec.ofChange ringTellsWrong)

/-- 'barographkeep.QueueLinear': WHATEVER THE INPUT: true; the input reads as it did. -/
def queueLinearSpec : ChangeSpec := { name := "queueLinear", fn := fun _ => fun
  | [d1, d2, d3] => { results := [.lit (.bool true)], args := [d1, d2, d3] }
  | _ => none }
def queueLinearRow : OpenClaim := { program := "ytiinnkdhccgelaadoor", sum := "af84a12bf66bca2c19b6c412fa6ee5434285099d5db14a1eb201eb060e1d182a", func := "barograph/barographkeep.QueueLinear", spec := "queueLinear", unfollowed := true, recurses := true, named := ["barograph/vm.shapes"], apart := false, laid := [("barograph/vm.shapes", laid_barograph_vm_shapes)] }
def QueueLinearSaid : Prop := queueLinearRow.holds Tryd.pinned (OpenSpec.ofChange queueLinearSpec)

/-- ITS FALSE NEIGHBOUR: 'it returns false'. Refute it at one input. -/
def queueLinearWrong : ChangeSpec := { name := "queueLinear", fn := fun _ => fun
  | [d1, d2, d3] => { results := [.lit (.bool false)], args := [d1, d2, d3] }
  | _ => none }
def QueueLinearWrongFalsely : Prop := queueLinearRow.holds Tryd.pinned (OpenSpec.ofChange queueLinearWrong)

/-- 'barographkeep.QueueTells': WHATEVER THE INPUT: true; the input reads as it did. -/
def queueTellsSpec : ChangeSpec := { name := "queueTells", fn := fun _ => fun
  | [d1, d2] => { results := [.lit (.bool true)], args := [d1, d2] }
  | _ => none }
def queueTellsRow : OpenClaim := { program := "ytiinnkdhccgelaadoor", sum := "af84a12bf66bca2c19b6c412fa6ee5434285099d5db14a1eb201eb060e1d182a", func := "barograph/barographkeep.QueueTells", spec := "queueTells", unfollowed := true, recurses := true, named := ["barograph/vm.shapes"], apart := false, laid := [("barograph/vm.shapes", laid_barograph_vm_shapes)] }
def QueueTellsSaid : Prop := queueTellsRow.holds Tryd.pinned (OpenSpec.ofChange queueTellsSpec)

/-- ITS FALSE NEIGHBOUR: 'it returns false'. Refute it at one input. -/
def queueTellsWrong : ChangeSpec := { name := "queueTells", fn := fun _ => fun
  | [d1, d2] => { results := [.lit (.bool false)], args := [d1, d2] }
  | _ => none }
def QueueTellsWrongFalsely : Prop := queueTellsRow.holds Tryd.pinned (OpenSpec.ofChange queueTellsWrong)

/-- 'barographkeep.QueueOrder': WHATEVER THE INPUT: true; the input reads as it did. -/
def queueOrderSpec : ChangeSpec := { name := "queueOrder", fn := fun _ => fun
  | [d1, d2] => { results := [.lit (.bool true)], args := [d1, d2] }
  | _ => none }
def queueOrderRow : OpenClaim := { program := "ytiinnkdhccgelaadoor", sum := "af84a12bf66bca2c19b6c412fa6ee5434285099d5db14a1eb201eb060e1d182a", func := "barograph/barographkeep.QueueOrder", spec := "queueOrder", unfollowed := true, recurses := true, named := ["barograph/vm.shapes"], apart := false, laid := [("barograph/vm.shapes", laid_barograph_vm_shapes)] }
def QueueOrderSaid : Prop := queueOrderRow.holds Tryd.pinned (OpenSpec.ofChange queueOrderSpec)

/-- ITS FALSE NEIGHBOUR: 'it returns false'. Refute it at one input. -/
def queueOrderWrong : ChangeSpec := { name := "queueOrder", fn := fun _ => fun
  | [d1, d2] => { results := [.lit (.bool false)], args := [d1, d2] }
  | _ => none }
def QueueOrderWrongFalsely : Prop := queueOrderRow.holds Tryd.pinned (OpenSpec.ofChange queueOrderWrong)

/-- 'barographkeep.StackLinear': WHATEVER THE INPUT: true; the input reads as it did. -/
def stackLinearSpec : ChangeSpec := { name := "stackLinear", fn := fun _ => fun
  | [d1, d2, d3] => { results := [.lit (.bool true)], args := [d1, d2, d3] }
  | _ => none }
def stackLinearRow : OpenClaim := { program := "ytiinnkdhccgelaadoor", sum := "af84a12bf66bca2c19b6c412fa6ee5434285099d5db14a1eb201eb060e1d182a", func := "barograph/barographkeep.StackLinear", spec := "stackLinear", unfollowed := true, recurses := true, named := ["barograph/vm.shapes"], apart := false, laid := [("barograph/vm.shapes", laid_barograph_vm_shapes)] }
def StackLinearSaid : Prop := stackLinearRow.holds Tryd.pinned (OpenSpec.ofChange stackLinearSpec)

/-- ITS FALSE NEIGHBOUR: 'it returns false'. Refute it at one input. -/
def stackLinearWrong : ChangeSpec := { name := "stackLinear", fn := fun _ => fun
  | [d1, d2, d3] => { results := [.lit (.bool false)], args := [d1, d2, d3] }
  | _ => none }
def StackLinearWrongFalsely : Prop := stackLinearRow.holds Tryd.pinned (OpenSpec.ofChange stackLinearWrong)

/-- 'barographkeep.StackAll': WHATEVER THE INPUT: true; the input reads as it did. -/
def stackAllSpec : ChangeSpec := { name := "stackAll", fn := fun _ => fun
  | [d1, d2, d3] => { results := [.lit (.bool true)], args := [d1, d2, d3] }
  | _ => none }
def stackAllRow : OpenClaim := { program := "ytiinnkdhccgelaadoor", sum := "af84a12bf66bca2c19b6c412fa6ee5434285099d5db14a1eb201eb060e1d182a", func := "barograph/barographkeep.StackAll", spec := "stackAll", unfollowed := true, recurses := true, named := ["barograph/vm.shapes"], apart := false, laid := [("barograph/vm.shapes", laid_barograph_vm_shapes)] }
def StackAllSaid : Prop := stackAllRow.holds Tryd.pinned (OpenSpec.ofChange stackAllSpec)

/-- ITS FALSE NEIGHBOUR: 'it returns false'. Refute it at one input. -/
def stackAllWrong : ChangeSpec := { name := "stackAll", fn := fun _ => fun
  | [d1, d2, d3] => { results := [.lit (.bool false)], args := [d1, d2, d3] }
  | _ => none }
def StackAllWrongFalsely : Prop := stackAllRow.holds Tryd.pinned (OpenSpec.ofChange stackAllWrong)

/-- 'barographkeep.StackTells': WHATEVER THE INPUT: true; the input reads as it did. -/
def stackTellsSpec : ChangeSpec := { name := "stackTells", fn := fun _ => fun
  | [d1, d2] => { results := [.lit (.bool true)], args := [d1, d2] }
  | _ => none }
def stackTellsRow : OpenClaim := { program := "ytiinnkdhccgelaadoor", sum := "af84a12bf66bca2c19b6c412fa6ee5434285099d5db14a1eb201eb060e1d182a", func := "barograph/barographkeep.StackTells", spec := "stackTells", unfollowed := true, recurses := true, named := ["barograph/vm.shapes"], apart := false, laid := [("barograph/vm.shapes", laid_barograph_vm_shapes)] }
def StackTellsSaid : Prop := stackTellsRow.holds Tryd.pinned (OpenSpec.ofChange stackTellsSpec)

/-- ITS FALSE NEIGHBOUR: 'it returns false'. Refute it at one input. -/
def stackTellsWrong : ChangeSpec := { name := "stackTells", fn := fun _ => fun
  | [d1, d2] => { results := [.lit (.bool false)], args := [d1, d2] }
  | _ => none }
def StackTellsWrongFalsely : Prop := stackTellsRow.holds Tryd.pinned (OpenSpec.ofChange stackTellsWrong)

/-- 'barographkeep.LockOne': WHATEVER THE INPUT: true; the input reads as it did. -/
def lockOneSpec : ChangeSpec := { name := "lockOne", fn := fun _ => fun
  | [d1, d2, d3] => { results := [.lit (.bool true)], args := [d1, d2, d3] }
  | _ => none }
def lockOneRow : OpenClaim := { program := "ytiinnkdhccgelaadoor", sum := "af84a12bf66bca2c19b6c412fa6ee5434285099d5db14a1eb201eb060e1d182a", func := "barograph/barographkeep.LockOne", spec := "lockOne", unfollowed := true, recurses := true, named := ["internal/strconv.uint64pow10", "math/bits.deBruijn32tab", "math/bits.deBruijn64tab", "barograph/vm.shapes"], apart := false, laid := [("math/bits.deBruijn32tab", laid_math_bits_deBruijn32tab), ("math/bits.deBruijn64tab", laid_math_bits_deBruijn64tab), ("internal/strconv.uint64pow10", laid_internal_strconv_uint64pow10), ("barograph/vm.shapes", laid_barograph_vm_shapes)] }
def LockOneSaid : Prop := lockOneRow.holds Tryd.pinned (OpenSpec.ofChange lockOneSpec)

/-- ITS FALSE NEIGHBOUR: 'it returns false'. Refute it at one input. -/
def lockOneWrong : ChangeSpec := { name := "lockOne", fn := fun _ => fun
  | [d1, d2, d3] => { results := [.lit (.bool false)], args := [d1, d2, d3] }
  | _ => none }
def LockOneWrongFalsely : Prop := lockOneRow.holds Tryd.pinned (OpenSpec.ofChange lockOneWrong)

/-- 'barographkeep.LockEnds': WHATEVER THE INPUT: true; the input reads as it did. -/
def lockEndsSpec : ChangeSpec := { name := "lockEnds", fn := fun _ => fun
  | [d1, d2] => { results := [.lit (.bool true)], args := [d1, d2] }
  | _ => none }
def lockEndsRow : OpenClaim := { program := "ytiinnkdhccgelaadoor", sum := "af84a12bf66bca2c19b6c412fa6ee5434285099d5db14a1eb201eb060e1d182a", func := "barograph/barographkeep.LockEnds", spec := "lockEnds", unfollowed := true, recurses := true, named := ["internal/strconv.uint64pow10", "math/bits.deBruijn32tab", "math/bits.deBruijn64tab", "barograph/vm.shapes"], apart := false, laid := [("math/bits.deBruijn32tab", laid_math_bits_deBruijn32tab), ("math/bits.deBruijn64tab", laid_math_bits_deBruijn64tab), ("internal/strconv.uint64pow10", laid_internal_strconv_uint64pow10), ("barograph/vm.shapes", laid_barograph_vm_shapes)] }
def LockEndsSaid : Prop := lockEndsRow.holds Tryd.pinned (OpenSpec.ofChange lockEndsSpec)

/-- ITS FALSE NEIGHBOUR: 'it returns false'. Refute it at one input. -/
def lockEndsWrong : ChangeSpec := { name := "lockEnds", fn := fun _ => fun
  | [d1, d2] => { results := [.lit (.bool false)], args := [d1, d2] }
  | _ => none }
def LockEndsWrongFalsely : Prop := lockEndsRow.holds Tryd.pinned (OpenSpec.ofChange lockEndsWrong)

/-- 'barographkeep.LockAlone': WHATEVER THE INPUT: true; the input reads as it did. -/
def lockAloneSpec : ChangeSpec := { name := "lockAlone", fn := fun _ => fun
  | [d1, d2] => { results := [.lit (.bool true)], args := [d1, d2] }
  | _ => none }
def lockAloneRow : OpenClaim := { program := "ytiinnkdhccgelaadoor", sum := "af84a12bf66bca2c19b6c412fa6ee5434285099d5db14a1eb201eb060e1d182a", func := "barograph/barographkeep.LockAlone", spec := "lockAlone", unfollowed := true, recurses := true, named := ["internal/strconv.uint64pow10", "math/bits.deBruijn32tab", "math/bits.deBruijn64tab", "barograph/vm.shapes"], apart := false, laid := [("math/bits.deBruijn32tab", laid_math_bits_deBruijn32tab), ("math/bits.deBruijn64tab", laid_math_bits_deBruijn64tab), ("internal/strconv.uint64pow10", laid_internal_strconv_uint64pow10), ("barograph/vm.shapes", laid_barograph_vm_shapes)] }
def LockAloneSaid : Prop := lockAloneRow.holds Tryd.pinned (OpenSpec.ofChange lockAloneSpec)

/-- ITS FALSE NEIGHBOUR: 'it returns false'. Refute it at one input. -/
def lockAloneWrong : ChangeSpec := { name := "lockAlone", fn := fun _ => fun
  | [d1, d2] => { results := [.lit (.bool false)], args := [d1, d2] }
  | _ => none }
def LockAloneWrongFalsely : Prop := lockAloneRow.holds Tryd.pinned (OpenSpec.ofChange lockAloneWrong)

/- THE SECOND FORM. 'bulk': how many values and letters a reading holds, each counted each time it is reached (what is shared counts as often as it is met; a slice's spare places count too). A statement '..UptoSaid' is the law's where the arguments, and the package variables that the reading takes, are together of bulk at most 1048576: NARROWER than '..Said'. Prove '..Said' where nothing that the law and all that it calls make is longer than what came in: it says more and counts as full. Else prove '..UptoSaid'. A law counts once. -/
mutual
def uptoBulk {H : Type} : DataW H → Nat
  | .lit (.string bytes) => bytes.length + 1
  | .lit _ => 1
  | .nil => 1
  | .ptr d => uptoBulk d + 1
  | .slice elems spare => uptoBulkAll elems + uptoBulkAll spare + 1
  | .agg parts => uptoBulkAll parts + 1
  | .iface _ d => uptoBulk d + 1
  | .map entries => uptoBulkEntries entries + 1
  | .held _ => 1
def uptoBulkAll {H : Type} : List (DataW H) → Nat
  | [] => 0
  | d :: r => uptoBulk d + uptoBulkAll r
def uptoBulkEntries {H : Type} : List (Lit × DataW H) → Nat
  | [] => 0
  | x :: r => uptoBulkEntry x + uptoBulkEntries r
def uptoBulkEntry {H : Type} : Lit × DataW H → Nat
  | (.string bytes, d) => bytes.length + uptoBulk d + 1
  | (_, d) => uptoBulk d + 1
 end
def uptoSmall : (H : Type) → List (DataW H) → Bool := fun _ ds => decide (uptoBulkAll ds ≤ 1048576)
def OpenSpec.upto (s : _root_.Go.ChangeSpec) : _root_.Go.OpenSpec := { _root_.Go.OpenSpec.ofChange s with cond := some uptoSmall }

/-- 'barographtop.TopGuardSema', WHERE WHAT IT READS IS OF BULK AT MOST 1048576: true; the input reads as it did. -/
def topGuardSemaUptoRow : OpenClaim := { program := "ytiinnkdhccgelaadoor", sum := "af84a12bf66bca2c19b6c412fa6ee5434285099d5db14a1eb201eb060e1d182a", func := "barograph/barographtop.TopGuardSema", spec := "topGuardSema", unfollowed := true, recurses := true, named := ["barograph/vm.shapes"], apart := false, laid := [("barograph/vm.shapes", laid_barograph_vm_shapes)], narrowed := true }
def TopGuardSemaUptoSaid : Prop := topGuardSemaUptoRow.holds Tryd.pinned (OpenSpec.upto topGuardSemaSpec)

/-- 'barographtop.TopGuardLock', WHERE WHAT IT READS IS OF BULK AT MOST 1048576: true; the input reads as it did. -/
def topGuardLockUptoRow : OpenClaim := { program := "ytiinnkdhccgelaadoor", sum := "af84a12bf66bca2c19b6c412fa6ee5434285099d5db14a1eb201eb060e1d182a", func := "barograph/barographtop.TopGuardLock", spec := "topGuardLock", unfollowed := true, recurses := true, named := ["internal/strconv.uint64pow10", "math/bits.deBruijn32tab", "math/bits.deBruijn64tab", "barograph/vm.shapes"], apart := false, laid := [("math/bits.deBruijn32tab", laid_math_bits_deBruijn32tab), ("math/bits.deBruijn64tab", laid_math_bits_deBruijn64tab), ("internal/strconv.uint64pow10", laid_internal_strconv_uint64pow10), ("barograph/vm.shapes", laid_barograph_vm_shapes)], narrowed := true }
def TopGuardLockUptoSaid : Prop := topGuardLockUptoRow.holds Tryd.pinned (OpenSpec.upto topGuardLockSpec)

/-- 'barographkeep.RingOrder', WHERE WHAT IT READS IS OF BULK AT MOST 1048576: true; the input reads as it did. -/
def ringOrderUptoRow : OpenClaim := { program := "ytiinnkdhccgelaadoor", sum := "af84a12bf66bca2c19b6c412fa6ee5434285099d5db14a1eb201eb060e1d182a", func := "barograph/barographkeep.RingOrder", spec := "ringOrder", unfollowed := true, recurses := true, named := ["barograph/vm.shapes"], apart := false, laid := [("barograph/vm.shapes", laid_barograph_vm_shapes)], narrowed := true }
def RingOrderUptoSaid : Prop := ringOrderUptoRow.holds Tryd.pinned (OpenSpec.upto ringOrderSpec)

/-- 'barographkeep.RingFull', WHERE WHAT IT READS IS OF BULK AT MOST 1048576: true; the input reads as it did. -/
def ringFullUptoRow : OpenClaim := { program := "ytiinnkdhccgelaadoor", sum := "af84a12bf66bca2c19b6c412fa6ee5434285099d5db14a1eb201eb060e1d182a", func := "barograph/barographkeep.RingFull", spec := "ringFull", unfollowed := true, recurses := true, named := ["barograph/vm.shapes"], apart := false, laid := [("barograph/vm.shapes", laid_barograph_vm_shapes)], narrowed := true }
def RingFullUptoSaid : Prop := ringFullUptoRow.holds Tryd.pinned (OpenSpec.upto ringFullSpec)

/-- 'barographkeep.RingTells', WHERE WHAT IT READS IS OF BULK AT MOST 1048576: true; the input reads as it did. -/
def ringTellsUptoRow : OpenClaim := { program := "ytiinnkdhccgelaadoor", sum := "af84a12bf66bca2c19b6c412fa6ee5434285099d5db14a1eb201eb060e1d182a", func := "barograph/barographkeep.RingTells", spec := "ringTells", unfollowed := true, recurses := true, named := ["barograph/vm.shapes"], apart := false, laid := [("barograph/vm.shapes", laid_barograph_vm_shapes)], narrowed := true }
def RingTellsUptoSaid : Prop := ringTellsUptoRow.holds Tryd.pinned (OpenSpec.upto ringTellsSpec)

/-- 'barographkeep.QueueLinear', WHERE WHAT IT READS IS OF BULK AT MOST 1048576: true; the input reads as it did. -/
def queueLinearUptoRow : OpenClaim := { program := "ytiinnkdhccgelaadoor", sum := "af84a12bf66bca2c19b6c412fa6ee5434285099d5db14a1eb201eb060e1d182a", func := "barograph/barographkeep.QueueLinear", spec := "queueLinear", unfollowed := true, recurses := true, named := ["barograph/vm.shapes"], apart := false, laid := [("barograph/vm.shapes", laid_barograph_vm_shapes)], narrowed := true }
def QueueLinearUptoSaid : Prop := queueLinearUptoRow.holds Tryd.pinned (OpenSpec.upto queueLinearSpec)

/-- 'barographkeep.QueueTells', WHERE WHAT IT READS IS OF BULK AT MOST 1048576: true; the input reads as it did. -/
def queueTellsUptoRow : OpenClaim := { program := "ytiinnkdhccgelaadoor", sum := "af84a12bf66bca2c19b6c412fa6ee5434285099d5db14a1eb201eb060e1d182a", func := "barograph/barographkeep.QueueTells", spec := "queueTells", unfollowed := true, recurses := true, named := ["barograph/vm.shapes"], apart := false, laid := [("barograph/vm.shapes", laid_barograph_vm_shapes)], narrowed := true }
def QueueTellsUptoSaid : Prop := queueTellsUptoRow.holds Tryd.pinned (OpenSpec.upto queueTellsSpec)

/-- 'barographkeep.QueueOrder', WHERE WHAT IT READS IS OF BULK AT MOST 1048576: true; the input reads as it did. -/
def queueOrderUptoRow : OpenClaim := { program := "ytiinnkdhccgelaadoor", sum := "af84a12bf66bca2c19b6c412fa6ee5434285099d5db14a1eb201eb060e1d182a", func := "barograph/barographkeep.QueueOrder", spec := "queueOrder", unfollowed := true, recurses := true, named := ["barograph/vm.shapes"], apart := false, laid := [("barograph/vm.shapes", laid_barograph_vm_shapes)], narrowed := true }
def QueueOrderUptoSaid : Prop := queueOrderUptoRow.holds Tryd.pinned (OpenSpec.upto queueOrderSpec)

/-- 'barographkeep.StackLinear', WHERE WHAT IT READS IS OF BULK AT MOST 1048576: true; the input reads as it did. -/
def stackLinearUptoRow : OpenClaim := { program := "ytiinnkdhccgelaadoor", sum := "af84a12bf66bca2c19b6c412fa6ee5434285099d5db14a1eb201eb060e1d182a", func := "barograph/barographkeep.StackLinear", spec := "stackLinear", unfollowed := true, recurses := true, named := ["barograph/vm.shapes"], apart := false, laid := [("barograph/vm.shapes", laid_barograph_vm_shapes)], narrowed := true }
def StackLinearUptoSaid : Prop := stackLinearUptoRow.holds Tryd.pinned (OpenSpec.upto stackLinearSpec)

/-- 'barographkeep.StackAll', WHERE WHAT IT READS IS OF BULK AT MOST 1048576: true; the input reads as it did. -/
def stackAllUptoRow : OpenClaim := { program := "ytiinnkdhccgelaadoor", sum := "af84a12bf66bca2c19b6c412fa6ee5434285099d5db14a1eb201eb060e1d182a", func := "barograph/barographkeep.StackAll", spec := "stackAll", unfollowed := true, recurses := true, named := ["barograph/vm.shapes"], apart := false, laid := [("barograph/vm.shapes", laid_barograph_vm_shapes)], narrowed := true }
def StackAllUptoSaid : Prop := stackAllUptoRow.holds Tryd.pinned (OpenSpec.upto stackAllSpec)

/-- 'barographkeep.StackTells', WHERE WHAT IT READS IS OF BULK AT MOST 1048576: true; the input reads as it did. -/
def stackTellsUptoRow : OpenClaim := { program := "ytiinnkdhccgelaadoor", sum := "af84a12bf66bca2c19b6c412fa6ee5434285099d5db14a1eb201eb060e1d182a", func := "barograph/barographkeep.StackTells", spec := "stackTells", unfollowed := true, recurses := true, named := ["barograph/vm.shapes"], apart := false, laid := [("barograph/vm.shapes", laid_barograph_vm_shapes)], narrowed := true }
def StackTellsUptoSaid : Prop := stackTellsUptoRow.holds Tryd.pinned (OpenSpec.upto stackTellsSpec)

/-- 'barographkeep.LockOne', WHERE WHAT IT READS IS OF BULK AT MOST 1048576: true; the input reads as it did. -/
def lockOneUptoRow : OpenClaim := { program := "ytiinnkdhccgelaadoor", sum := "af84a12bf66bca2c19b6c412fa6ee5434285099d5db14a1eb201eb060e1d182a", func := "barograph/barographkeep.LockOne", spec := "lockOne", unfollowed := true, recurses := true, named := ["internal/strconv.uint64pow10", "math/bits.deBruijn32tab", "math/bits.deBruijn64tab", "barograph/vm.shapes"], apart := false, laid := [("math/bits.deBruijn32tab", laid_math_bits_deBruijn32tab), ("math/bits.deBruijn64tab", laid_math_bits_deBruijn64tab), ("internal/strconv.uint64pow10", laid_internal_strconv_uint64pow10), ("barograph/vm.shapes", laid_barograph_vm_shapes)], narrowed := true }
def LockOneUptoSaid : Prop := lockOneUptoRow.holds Tryd.pinned (OpenSpec.upto lockOneSpec)

/-- 'barographkeep.LockEnds', WHERE WHAT IT READS IS OF BULK AT MOST 1048576: true; the input reads as it did. -/
def lockEndsUptoRow : OpenClaim := { program := "ytiinnkdhccgelaadoor", sum := "af84a12bf66bca2c19b6c412fa6ee5434285099d5db14a1eb201eb060e1d182a", func := "barograph/barographkeep.LockEnds", spec := "lockEnds", unfollowed := true, recurses := true, named := ["internal/strconv.uint64pow10", "math/bits.deBruijn32tab", "math/bits.deBruijn64tab", "barograph/vm.shapes"], apart := false, laid := [("math/bits.deBruijn32tab", laid_math_bits_deBruijn32tab), ("math/bits.deBruijn64tab", laid_math_bits_deBruijn64tab), ("internal/strconv.uint64pow10", laid_internal_strconv_uint64pow10), ("barograph/vm.shapes", laid_barograph_vm_shapes)], narrowed := true }
def LockEndsUptoSaid : Prop := lockEndsUptoRow.holds Tryd.pinned (OpenSpec.upto lockEndsSpec)

/-- 'barographkeep.LockAlone', WHERE WHAT IT READS IS OF BULK AT MOST 1048576: true; the input reads as it did. -/
def lockAloneUptoRow : OpenClaim := { program := "ytiinnkdhccgelaadoor", sum := "af84a12bf66bca2c19b6c412fa6ee5434285099d5db14a1eb201eb060e1d182a", func := "barograph/barographkeep.LockAlone", spec := "lockAlone", unfollowed := true, recurses := true, named := ["internal/strconv.uint64pow10", "math/bits.deBruijn32tab", "math/bits.deBruijn64tab", "barograph/vm.shapes"], apart := false, laid := [("math/bits.deBruijn32tab", laid_math_bits_deBruijn32tab), ("math/bits.deBruijn64tab", laid_math_bits_deBruijn64tab), ("internal/strconv.uint64pow10", laid_internal_strconv_uint64pow10), ("barograph/vm.shapes", laid_barograph_vm_shapes)], narrowed := true }
def LockAloneUptoSaid : Prop := lockAloneUptoRow.holds Tryd.pinned (OpenSpec.upto lockAloneSpec)

end Rows
end Go.Proofs.YtiinnkdhccgelaaDoor
