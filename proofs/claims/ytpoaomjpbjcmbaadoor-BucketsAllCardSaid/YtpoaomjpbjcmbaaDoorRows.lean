/-
  NARROWER THAN 'FOR EVERY INPUT', by the rows' own cells (each row's printed sentence says how): ChunkSteady: laid · RollBounds: laid · MeanParts: laid · ZigBack: laid · RiseParts: laid · RiseNever: laid · RollParts: laid · AtBetween: laid · BucketsAll: laid · ChunkBack: laid · ChunkFixed: laid · ChunkShift: laid.
  DERIVED. THE GIVEN ROWS OF THIS SEAT. 12 by the template 'for every input the law returns true; each argument reads behind the call as it read before'; 0 by the template 'total and deterministic' (their statements: YtpoaomjpbjcmbaaDoorTotals.lean).
  GIVEN WITH THE SEED: the statements are not yours to turn. If you find one false, say at which input.
  Laid BY PROGRAM, IN A SANDBOX (cutbox-rows.mjs): the forced cells as the released guide's own fill.sh prints them over the translation df32eb96435c056d… (all of the seat's roots in one cut). By AI agents, Wed Nov 11 2026. No macro, syntax, notation, axiom, sorry.
-/
import Derived.Test.YtpoaomjpbjcmbaaDoorChecked
import GoSem.Claim
import GoSem.ClaimJoined
import GoSem.ClaimMapViews
import Derived.JoinedTies
import Derived.KernelRfl
namespace Go.Proofs.YtpoaomjpbjcmbaaDoor
/- THE CELL 'sum', in the pinned program and in every row, IS THE sha256 OF THE DUMP (.gsa) THAT YtpoaomjpbjcmbaaDoorProg.lean LOADS. Nothing in Lean hashes anything: it is a label: what it is worth is what the hold of that sum in a sandbox is worth. -/
noncomputable def Tryd.pinned : Pinned := { name := "ytpoaomjpbjcmbaadoor", sum := "df32eb96435c056d6a495abd0800ae734264e2118769bb4122182558aa90b610", checked := Tryd.checked }
namespace Rows
def none {H : Type} : Left H := { results := [], args := [] }

/- WHAT THE LISTED PACKAGE-LEVEL VARIABLES READ AS WHEN THE CALL BEGINS. Each datum BY PROGRAM (the guide's laid-datum.mjs) off the statement by which the dump's own 'gosem.cut.vars' lays the variable. In a bare row this is a premise. The card (YtpoaomjpbjcmbaaDoorCards.lean) ties it to the program's text. -/
def laid_barograph_zig_classes {H : Type} : DataW H := .agg [.agg [.lit (.int .i64 0), .lit (.int .i64 1), .lit (.int .i64 0)], .agg [.lit (.int .i64 2), .lit (.int .i64 2), .lit (.int .i64 6)], .agg [.lit (.int .i64 6), .lit (.int .i64 3), .lit (.int .i64 12)], .agg [.lit (.int .i64 14), .lit (.int .i64 4), .lit (.int .i64 24)], .agg [.lit (.int .i64 15), .lit (.int .i64 4), .lit (.int .i64 59)]]

/-- 'barographkeep.ChunkSteady': WHATEVER THE INPUT: true; the input reads as it did. -/
def chunkSteadySpec : ChangeSpec := { name := "chunkSteady", fn := fun _ => fun
  | [d1, d2, d3, d4] => { results := [.lit (.bool true)], args := [d1, d2, d3, d4] }
  | _ => none }
def chunkSteadyRow : OpenClaim := { program := "ytpoaomjpbjcmbaadoor", sum := "df32eb96435c056d6a495abd0800ae734264e2118769bb4122182558aa90b610", func := "barograph/barographkeep.ChunkSteady", spec := "chunkSteady", named := ["barograph/zig.classes"], apart := false, laid := [("barograph/zig.classes", laid_barograph_zig_classes)] }
def ChunkSteadySaid : Prop := chunkSteadyRow.holds Tryd.pinned (OpenSpec.ofChange chunkSteadySpec)

/-- ITS FALSE NEIGHBOUR: 'it returns false'. Refute it at one input. -/
def chunkSteadyWrong : ChangeSpec := { name := "chunkSteady", fn := fun _ => fun
  | [d1, d2, d3, d4] => { results := [.lit (.bool false)], args := [d1, d2, d3, d4] }
  | _ => none }
def ChunkSteadyWrongFalsely : Prop := chunkSteadyRow.holds Tryd.pinned (OpenSpec.ofChange chunkSteadyWrong)

/-- 'barographkeep.RollBounds': WHATEVER THE INPUT: true; the input reads as it did. -/
def rollBoundsSpec : ChangeSpec := { name := "rollBounds", fn := fun _ => fun
  | [d1, d2, d3] => { results := [.lit (.bool true)], args := [d1, d2, d3] }
  | _ => none }
def rollBoundsRow : OpenClaim := { program := "ytpoaomjpbjcmbaadoor", sum := "df32eb96435c056d6a495abd0800ae734264e2118769bb4122182558aa90b610", func := "barograph/barographkeep.RollBounds", spec := "rollBounds", named := ["barograph/zig.classes"], apart := false, laid := [("barograph/zig.classes", laid_barograph_zig_classes)] }
def RollBoundsSaid : Prop := rollBoundsRow.holds Tryd.pinned (OpenSpec.ofChange rollBoundsSpec)

/-- ITS FALSE NEIGHBOUR: 'it returns false'. Refute it at one input. -/
def rollBoundsWrong : ChangeSpec := { name := "rollBounds", fn := fun _ => fun
  | [d1, d2, d3] => { results := [.lit (.bool false)], args := [d1, d2, d3] }
  | _ => none }
def RollBoundsWrongFalsely : Prop := rollBoundsRow.holds Tryd.pinned (OpenSpec.ofChange rollBoundsWrong)

/-- 'barographkeep.MeanParts': WHATEVER THE INPUT: true; the input reads as it did. -/
def meanPartsSpec : ChangeSpec := { name := "meanParts", fn := fun _ => fun
  | [d1, d2] => { results := [.lit (.bool true)], args := [d1, d2] }
  | _ => none }
def meanPartsRow : OpenClaim := { program := "ytpoaomjpbjcmbaadoor", sum := "df32eb96435c056d6a495abd0800ae734264e2118769bb4122182558aa90b610", func := "barograph/barographkeep.MeanParts", spec := "meanParts", unfollowed := true, recurses := true, named := ["barograph/zig.classes"], apart := false, laid := [("barograph/zig.classes", laid_barograph_zig_classes)] }
def MeanPartsSaid : Prop := meanPartsRow.holds Tryd.pinned (OpenSpec.ofChange meanPartsSpec)

/-- ITS FALSE NEIGHBOUR: 'it returns false'. Refute it at one input. -/
def meanPartsWrong : ChangeSpec := { name := "meanParts", fn := fun _ => fun
  | [d1, d2] => { results := [.lit (.bool false)], args := [d1, d2] }
  | _ => none }
def MeanPartsWrongFalsely : Prop := meanPartsRow.holds Tryd.pinned (OpenSpec.ofChange meanPartsWrong)

/-- 'barographkeep.ZigBack': WHATEVER THE INPUT: true; the input reads as it did. -/
def zigBackSpec : ChangeSpec := { name := "zigBack", fn := fun _ => fun
  | [d1, d2, d3] => { results := [.lit (.bool true)], args := [d1, d2, d3] }
  | _ => none }
def zigBackRow : OpenClaim := { program := "ytpoaomjpbjcmbaadoor", sum := "df32eb96435c056d6a495abd0800ae734264e2118769bb4122182558aa90b610", func := "barograph/barographkeep.ZigBack", spec := "zigBack", named := ["barograph/zig.classes"], apart := false, laid := [("barograph/zig.classes", laid_barograph_zig_classes)] }
def ZigBackSaid : Prop := zigBackRow.holds Tryd.pinned (OpenSpec.ofChange zigBackSpec)

/-- ITS FALSE NEIGHBOUR: 'it returns false'. Refute it at one input. -/
def zigBackWrong : ChangeSpec := { name := "zigBack", fn := fun _ => fun
  | [d1, d2, d3] => { results := [.lit (.bool false)], args := [d1, d2, d3] }
  | _ => none }
def ZigBackWrongFalsely : Prop := zigBackRow.holds Tryd.pinned (OpenSpec.ofChange zigBackWrong)

/-- 'barographkeep.RiseParts': WHATEVER THE INPUT: true; the input reads as it did. -/
def risePartsSpec : ChangeSpec := { name := "riseParts", fn := fun _ => fun
  | [d1, d2] => { results := [.lit (.bool true)], args := [d1, d2] }
  | _ => none }
def risePartsRow : OpenClaim := { program := "ytpoaomjpbjcmbaadoor", sum := "df32eb96435c056d6a495abd0800ae734264e2118769bb4122182558aa90b610", func := "barograph/barographkeep.RiseParts", spec := "riseParts", unfollowed := true, recurses := true, named := ["barograph/zig.classes"], apart := false, laid := [("barograph/zig.classes", laid_barograph_zig_classes)] }
def RisePartsSaid : Prop := risePartsRow.holds Tryd.pinned (OpenSpec.ofChange risePartsSpec)

/-- ITS FALSE NEIGHBOUR: 'it returns false'. Refute it at one input. -/
def risePartsWrong : ChangeSpec := { name := "riseParts", fn := fun _ => fun
  | [d1, d2] => { results := [.lit (.bool false)], args := [d1, d2] }
  | _ => none }
def RisePartsWrongFalsely : Prop := risePartsRow.holds Tryd.pinned (OpenSpec.ofChange risePartsWrong)

/-- 'barographkeep.RiseNever': WHATEVER THE INPUT: true; the input reads as it did. -/
def riseNeverSpec : ChangeSpec := { name := "riseNever", fn := fun _ => fun
  | [d] => { results := [.lit (.bool true)], args := [d] }
  | _ => none }
def riseNeverRow : OpenClaim := { program := "ytpoaomjpbjcmbaadoor", sum := "df32eb96435c056d6a495abd0800ae734264e2118769bb4122182558aa90b610", func := "barograph/barographkeep.RiseNever", spec := "riseNever", unfollowed := true, recurses := true, named := ["barograph/zig.classes"], apart := false, laid := [("barograph/zig.classes", laid_barograph_zig_classes)] }
def RiseNeverSaid : Prop := riseNeverRow.holds Tryd.pinned (OpenSpec.ofChange riseNeverSpec)

/-- ITS FALSE NEIGHBOUR: 'it returns false'. Refute it at one input. -/
def riseNeverWrong : ChangeSpec := { name := "riseNever", fn := fun _ => fun
  | [d] => { results := [.lit (.bool false)], args := [d] }
  | _ => none }
def RiseNeverWrongFalsely : Prop := riseNeverRow.holds Tryd.pinned (OpenSpec.ofChange riseNeverWrong)

/-- 'barographkeep.RollParts': WHATEVER THE INPUT: true; the input reads as it did. -/
def rollPartsSpec : ChangeSpec := { name := "rollParts", fn := fun _ => fun
  | [d1, d2, d3, d4] => { results := [.lit (.bool true)], args := [d1, d2, d3, d4] }
  | _ => none }
def rollPartsRow : OpenClaim := { program := "ytpoaomjpbjcmbaadoor", sum := "df32eb96435c056d6a495abd0800ae734264e2118769bb4122182558aa90b610", func := "barograph/barographkeep.RollParts", spec := "rollParts", named := ["barograph/zig.classes"], apart := false, laid := [("barograph/zig.classes", laid_barograph_zig_classes)] }
def RollPartsSaid : Prop := rollPartsRow.holds Tryd.pinned (OpenSpec.ofChange rollPartsSpec)

/-- ITS FALSE NEIGHBOUR: 'it returns false'. Refute it at one input. -/
def rollPartsWrong : ChangeSpec := { name := "rollParts", fn := fun _ => fun
  | [d1, d2, d3, d4] => { results := [.lit (.bool false)], args := [d1, d2, d3, d4] }
  | _ => none }
def RollPartsWrongFalsely : Prop := rollPartsRow.holds Tryd.pinned (OpenSpec.ofChange rollPartsWrong)

/-- 'barographkeep.AtBetween': WHATEVER THE INPUT: true; the input reads as it did. -/
def atBetweenSpec : ChangeSpec := { name := "atBetween", fn := fun _ => fun
  | [d1, d2, d3] => { results := [.lit (.bool true)], args := [d1, d2, d3] }
  | _ => none }
def atBetweenRow : OpenClaim := { program := "ytpoaomjpbjcmbaadoor", sum := "df32eb96435c056d6a495abd0800ae734264e2118769bb4122182558aa90b610", func := "barograph/barographkeep.AtBetween", spec := "atBetween", unfollowed := true, recurses := true, named := ["barograph/zig.classes"], apart := false, laid := [("barograph/zig.classes", laid_barograph_zig_classes)] }
def AtBetweenSaid : Prop := atBetweenRow.holds Tryd.pinned (OpenSpec.ofChange atBetweenSpec)

/-- ITS FALSE NEIGHBOUR: 'it returns false'. Refute it at one input. -/
def atBetweenWrong : ChangeSpec := { name := "atBetween", fn := fun _ => fun
  | [d1, d2, d3] => { results := [.lit (.bool false)], args := [d1, d2, d3] }
  | _ => none }
def AtBetweenWrongFalsely : Prop := atBetweenRow.holds Tryd.pinned (OpenSpec.ofChange atBetweenWrong)

/-- 'barographkeep.BucketsAll': WHATEVER THE INPUT: true; the input reads as it did. -/
def bucketsAllSpec : ChangeSpec := { name := "bucketsAll", fn := fun _ => fun
  | [d1, d2, d3] => { results := [.lit (.bool true)], args := [d1, d2, d3] }
  | _ => none }
def bucketsAllRow : OpenClaim := { program := "ytpoaomjpbjcmbaadoor", sum := "df32eb96435c056d6a495abd0800ae734264e2118769bb4122182558aa90b610", func := "barograph/barographkeep.BucketsAll", spec := "bucketsAll", named := ["barograph/zig.classes"], apart := false, laid := [("barograph/zig.classes", laid_barograph_zig_classes)] }
def BucketsAllSaid : Prop := bucketsAllRow.holds Tryd.pinned (OpenSpec.ofChange bucketsAllSpec)

/-- ITS FALSE NEIGHBOUR: 'it returns false'. Refute it at one input. -/
def bucketsAllWrong : ChangeSpec := { name := "bucketsAll", fn := fun _ => fun
  | [d1, d2, d3] => { results := [.lit (.bool false)], args := [d1, d2, d3] }
  | _ => none }
def BucketsAllWrongFalsely : Prop := bucketsAllRow.holds Tryd.pinned (OpenSpec.ofChange bucketsAllWrong)

/-- 'barographkeep.ChunkBack': WHATEVER THE INPUT: true; the input reads as it did. -/
def chunkBackSpec : ChangeSpec := { name := "chunkBack", fn := fun _ => fun
  | [d1, d2, d3, d4] => { results := [.lit (.bool true)], args := [d1, d2, d3, d4] }
  | _ => none }
def chunkBackRow : OpenClaim := { program := "ytpoaomjpbjcmbaadoor", sum := "df32eb96435c056d6a495abd0800ae734264e2118769bb4122182558aa90b610", func := "barograph/barographkeep.ChunkBack", spec := "chunkBack", named := ["barograph/zig.classes"], apart := false, laid := [("barograph/zig.classes", laid_barograph_zig_classes)] }
def ChunkBackSaid : Prop := chunkBackRow.holds Tryd.pinned (OpenSpec.ofChange chunkBackSpec)

/-- ITS FALSE NEIGHBOUR: 'it returns false'. Refute it at one input. -/
def chunkBackWrong : ChangeSpec := { name := "chunkBack", fn := fun _ => fun
  | [d1, d2, d3, d4] => { results := [.lit (.bool false)], args := [d1, d2, d3, d4] }
  | _ => none }
def ChunkBackWrongFalsely : Prop := chunkBackRow.holds Tryd.pinned (OpenSpec.ofChange chunkBackWrong)

/-- 'barographkeep.ChunkFixed': WHATEVER THE INPUT: true; the input reads as it did. -/
def chunkFixedSpec : ChangeSpec := { name := "chunkFixed", fn := fun _ => fun
  | [d] => { results := [.lit (.bool true)], args := [d] }
  | _ => none }
def chunkFixedRow : OpenClaim := { program := "ytpoaomjpbjcmbaadoor", sum := "df32eb96435c056d6a495abd0800ae734264e2118769bb4122182558aa90b610", func := "barograph/barographkeep.ChunkFixed", spec := "chunkFixed", named := ["barograph/zig.classes"], apart := false, laid := [("barograph/zig.classes", laid_barograph_zig_classes)] }
def ChunkFixedSaid : Prop := chunkFixedRow.holds Tryd.pinned (OpenSpec.ofChange chunkFixedSpec)

/-- ITS FALSE NEIGHBOUR: 'it returns false'. Refute it at one input. -/
def chunkFixedWrong : ChangeSpec := { name := "chunkFixed", fn := fun _ => fun
  | [d] => { results := [.lit (.bool false)], args := [d] }
  | _ => none }
def ChunkFixedWrongFalsely : Prop := chunkFixedRow.holds Tryd.pinned (OpenSpec.ofChange chunkFixedWrong)

/-- 'barographkeep.ChunkShift': WHATEVER THE INPUT: true; the input reads as it did. -/
def chunkShiftSpec : ChangeSpec := { name := "chunkShift", fn := fun _ => fun
  | [d1, d2, d3] => { results := [.lit (.bool true)], args := [d1, d2, d3] }
  | _ => none }
def chunkShiftRow : OpenClaim := { program := "ytpoaomjpbjcmbaadoor", sum := "df32eb96435c056d6a495abd0800ae734264e2118769bb4122182558aa90b610", func := "barograph/barographkeep.ChunkShift", spec := "chunkShift", named := ["barograph/zig.classes"], apart := false, laid := [("barograph/zig.classes", laid_barograph_zig_classes)] }
def ChunkShiftSaid : Prop := chunkShiftRow.holds Tryd.pinned (OpenSpec.ofChange chunkShiftSpec)

/-- ITS FALSE NEIGHBOUR: 'it returns false'. Refute it at one input. -/
def chunkShiftWrong : ChangeSpec := { name := "chunkShift", fn := fun _ => fun
  | [d1, d2, d3] => { results := [.lit (.bool false)], args := [d1, d2, d3] }
  | _ => none }
def ChunkShiftWrongFalsely : Prop := chunkShiftRow.holds Tryd.pinned (OpenSpec.ofChange chunkShiftWrong)

/- THE SECOND FORM. 'bulk': how many values and letters a reading holds, each counted each time it is reached (what is shared counts as often as it is met; a slice's spare places count too). A statement '..UptoSaid' is the law's where the arguments, and the package variables that the reading takes, are together of bulk at most 1048576: NARROWER than '..Said'. Prove '..Said' where nothing that the law and all that it calls make is longer than what came in: it says more and counts as full. Else prove '..UptoSaid'. A law counts once. -/
mutual
def uptoBulk {H : Type} : DataW H → Nat
  | .lit (.string bytes) => bytes.length + 1
  | .lit _ => 1
  | .nil => 1
  | .ptr d => uptoBulk d + 1
  | .slice elems spare => uptoBulkAll elems + uptoBulkAll spare + 1
  | .agg parts => uptoBulkAll parts + 1
  | .iface _ d => uptoBulk d + 1
  | .map entries => uptoBulkEntries entries + 1
  | .held _ => 1
def uptoBulkAll {H : Type} : List (DataW H) → Nat
  | [] => 0
  | d :: r => uptoBulk d + uptoBulkAll r
def uptoBulkEntries {H : Type} : List (Lit × DataW H) → Nat
  | [] => 0
  | x :: r => uptoBulkEntry x + uptoBulkEntries r
def uptoBulkEntry {H : Type} : Lit × DataW H → Nat
  | (.string bytes, d) => bytes.length + uptoBulk d + 1
  | (_, d) => uptoBulk d + 1
 end
def uptoSmall : (H : Type) → List (DataW H) → Bool := fun _ ds => decide (uptoBulkAll ds ≤ 1048576)
def OpenSpec.upto (s : _root_.Go.ChangeSpec) : _root_.Go.OpenSpec := { _root_.Go.OpenSpec.ofChange s with cond := some uptoSmall }

/-- 'barographkeep.ChunkSteady', WHERE WHAT IT READS IS OF BULK AT MOST 1048576: true; the input reads as it did. -/
def chunkSteadyUptoRow : OpenClaim := { program := "ytpoaomjpbjcmbaadoor", sum := "df32eb96435c056d6a495abd0800ae734264e2118769bb4122182558aa90b610", func := "barograph/barographkeep.ChunkSteady", spec := "chunkSteady", named := ["barograph/zig.classes"], apart := false, laid := [("barograph/zig.classes", laid_barograph_zig_classes)], narrowed := true }
def ChunkSteadyUptoSaid : Prop := chunkSteadyUptoRow.holds Tryd.pinned (OpenSpec.upto chunkSteadySpec)

/-- 'barographkeep.RollBounds', WHERE WHAT IT READS IS OF BULK AT MOST 1048576: true; the input reads as it did. -/
def rollBoundsUptoRow : OpenClaim := { program := "ytpoaomjpbjcmbaadoor", sum := "df32eb96435c056d6a495abd0800ae734264e2118769bb4122182558aa90b610", func := "barograph/barographkeep.RollBounds", spec := "rollBounds", named := ["barograph/zig.classes"], apart := false, laid := [("barograph/zig.classes", laid_barograph_zig_classes)], narrowed := true }
def RollBoundsUptoSaid : Prop := rollBoundsUptoRow.holds Tryd.pinned (OpenSpec.upto rollBoundsSpec)

/-- 'barographkeep.MeanParts', WHERE WHAT IT READS IS OF BULK AT MOST 1048576: true; the input reads as it did. -/
def meanPartsUptoRow : OpenClaim := { program := "ytpoaomjpbjcmbaadoor", sum := "df32eb96435c056d6a495abd0800ae734264e2118769bb4122182558aa90b610", func := "barograph/barographkeep.MeanParts", spec := "meanParts", unfollowed := true, recurses := true, named := ["barograph/zig.classes"], apart := false, laid := [("barograph/zig.classes", laid_barograph_zig_classes)], narrowed := true }
def MeanPartsUptoSaid : Prop := meanPartsUptoRow.holds Tryd.pinned (OpenSpec.upto meanPartsSpec)

/-- 'barographkeep.ZigBack', WHERE WHAT IT READS IS OF BULK AT MOST 1048576: true; the input reads as it did. -/
def zigBackUptoRow : OpenClaim := { program := "ytpoaomjpbjcmbaadoor", sum := "df32eb96435c056d6a495abd0800ae734264e2118769bb4122182558aa90b610", func := "barograph/barographkeep.ZigBack", spec := "zigBack", named := ["barograph/zig.classes"], apart := false, laid := [("barograph/zig.classes", laid_barograph_zig_classes)], narrowed := true }
def ZigBackUptoSaid : Prop := zigBackUptoRow.holds Tryd.pinned (OpenSpec.upto zigBackSpec)

/-- 'barographkeep.RiseParts', WHERE WHAT IT READS IS OF BULK AT MOST 1048576: true; the input reads as it did. -/
def risePartsUptoRow : OpenClaim := { program := "ytpoaomjpbjcmbaadoor", sum := "df32eb96435c056d6a495abd0800ae734264e2118769bb4122182558aa90b610", func := "barograph/barographkeep.RiseParts", spec := "riseParts", unfollowed := true, recurses := true, named := ["barograph/zig.classes"], apart := false, laid := [("barograph/zig.classes", laid_barograph_zig_classes)], narrowed := true }
def RisePartsUptoSaid : Prop := risePartsUptoRow.holds Tryd.pinned (OpenSpec.upto risePartsSpec)

/-- 'barographkeep.RiseNever', WHERE WHAT IT READS IS OF BULK AT MOST 1048576: true; the input reads as it did. -/
def riseNeverUptoRow : OpenClaim := { program := "ytpoaomjpbjcmbaadoor", sum := "df32eb96435c056d6a495abd0800ae734264e2118769bb4122182558aa90b610", func := "barograph/barographkeep.RiseNever", spec := "riseNever", unfollowed := true, recurses := true, named := ["barograph/zig.classes"], apart := false, laid := [("barograph/zig.classes", laid_barograph_zig_classes)], narrowed := true }
def RiseNeverUptoSaid : Prop := riseNeverUptoRow.holds Tryd.pinned (OpenSpec.upto riseNeverSpec)

/-- 'barographkeep.RollParts', WHERE WHAT IT READS IS OF BULK AT MOST 1048576: true; the input reads as it did. -/
def rollPartsUptoRow : OpenClaim := { program := "ytpoaomjpbjcmbaadoor", sum := "df32eb96435c056d6a495abd0800ae734264e2118769bb4122182558aa90b610", func := "barograph/barographkeep.RollParts", spec := "rollParts", named := ["barograph/zig.classes"], apart := false, laid := [("barograph/zig.classes", laid_barograph_zig_classes)], narrowed := true }
def RollPartsUptoSaid : Prop := rollPartsUptoRow.holds Tryd.pinned (OpenSpec.upto rollPartsSpec)

/-- 'barographkeep.AtBetween', WHERE WHAT IT READS IS OF BULK AT MOST 1048576: true; the input reads as it did. -/
def atBetweenUptoRow : OpenClaim := { program := "ytpoaomjpbjcmbaadoor", sum := "df32eb96435c056d6a495abd0800ae734264e2118769bb4122182558aa90b610", func := "barograph/barographkeep.AtBetween", spec := "atBetween", unfollowed := true, recurses := true, named := ["barograph/zig.classes"], apart := false, laid := [("barograph/zig.classes", laid_barograph_zig_classes)], narrowed := true }
def AtBetweenUptoSaid : Prop := atBetweenUptoRow.holds Tryd.pinned (OpenSpec.upto atBetweenSpec)

/-- 'barographkeep.BucketsAll', WHERE WHAT IT READS IS OF BULK AT MOST 1048576: true; the input reads as it did. -/
def bucketsAllUptoRow : OpenClaim := { program := "ytpoaomjpbjcmbaadoor", sum := "df32eb96435c056d6a495abd0800ae734264e2118769bb4122182558aa90b610", func := "barograph/barographkeep.BucketsAll", spec := "bucketsAll", named := ["barograph/zig.classes"], apart := false, laid := [("barograph/zig.classes", laid_barograph_zig_classes)], narrowed := true }
def BucketsAllUptoSaid : Prop := bucketsAllUptoRow.holds Tryd.pinned (OpenSpec.upto bucketsAllSpec)

/-- 'barographkeep.ChunkBack', WHERE WHAT IT READS IS OF BULK AT MOST 1048576: true; the input reads as it did. -/
def chunkBackUptoRow : OpenClaim := { program := "ytpoaomjpbjcmbaadoor", sum := "df32eb96435c056d6a495abd0800ae734264e2118769bb4122182558aa90b610", func := "barograph/barographkeep.ChunkBack", spec := "chunkBack", named := ["barograph/zig.classes"], apart := false, laid := [("barograph/zig.classes", laid_barograph_zig_classes)], narrowed := true }
def ChunkBackUptoSaid : Prop := chunkBackUptoRow.holds Tryd.pinned (OpenSpec.upto chunkBackSpec)

/-- 'barographkeep.ChunkFixed', WHERE WHAT IT READS IS OF BULK AT MOST 1048576: true; the input reads as it did. -/
def chunkFixedUptoRow : OpenClaim := { program := "ytpoaomjpbjcmbaadoor", sum := "df32eb96435c056d6a495abd0800ae734264e2118769bb4122182558aa90b610", func := "barograph/barographkeep.ChunkFixed", spec := "chunkFixed", named := ["barograph/zig.classes"], apart := false, laid := [("barograph/zig.classes", laid_barograph_zig_classes)], narrowed := true }
def ChunkFixedUptoSaid : Prop := chunkFixedUptoRow.holds Tryd.pinned (OpenSpec.upto chunkFixedSpec)

/-- 'barographkeep.ChunkShift', WHERE WHAT IT READS IS OF BULK AT MOST 1048576: true; the input reads as it did. -/
def chunkShiftUptoRow : OpenClaim := { program := "ytpoaomjpbjcmbaadoor", sum := "df32eb96435c056d6a495abd0800ae734264e2118769bb4122182558aa90b610", func := "barograph/barographkeep.ChunkShift", spec := "chunkShift", named := ["barograph/zig.classes"], apart := false, laid := [("barograph/zig.classes", laid_barograph_zig_classes)], narrowed := true }
def ChunkShiftUptoSaid : Prop := chunkShiftUptoRow.holds Tryd.pinned (OpenSpec.upto chunkShiftSpec)

end Rows
end Go.Proofs.YtpoaomjpbjcmbaaDoor
