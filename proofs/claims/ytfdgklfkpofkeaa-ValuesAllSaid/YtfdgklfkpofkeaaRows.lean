/-
  No cell of these rows narrows 'for every input' (looked for: loops, veiled, ifaces, maps, wideKeys, modest, calm, conditions, laid).
  DERIVED. THE GIVEN ROWS OF THIS SEAT. 8 by the template 'for every input the law returns true; each argument reads behind the call as it read before'; 0 by the template 'total and deterministic' (their statements: YtfdgklfkpofkeaaTotals.lean).
  GIVEN WITH THE SEED: the statements are not yours to turn. If you find one false, say at which input.
  Laid BY PROGRAM, IN A SANDBOX (cutbox-rows.mjs): the forced cells as the released guide's own fill.sh prints them over the translation 3d26ee4c9071e9bc… (all of the seat's roots in one cut). By AI agents, Wed Nov 11 2026. No macro, syntax, notation, axiom, sorry.
-/
import Derived.Test.YtfdgklfkpofkeaaChecked
import GoSem.Claim
import GoSem.ClaimJoined
import GoSem.ClaimMapViews
import Derived.JoinedTies
import Derived.KernelRfl
namespace Go.Proofs.Ytfdgklfkpofkeaa
/- THE CELL 'sum', in the pinned program and in every row, IS THE sha256 OF THE DUMP (.gsa) THAT YtfdgklfkpofkeaaProg.lean LOADS. Nothing in Lean hashes anything: it is a label: what it is worth is what the hold of that sum in a sandbox is worth. -/
noncomputable def Try.pinned : Pinned := { name := "ytfdgklfkpofkeaa", sum := "3d26ee4c9071e9bc09c6f0d31dea81ccb7200fec92d45286d72e2ed743c694ca", checked := Try.checked }
namespace Rows
def none {H : Type} : Left H := { results := [], args := [] }

/-- 'barographkeep.LinOrders': WHATEVER THE INPUT: true; the input reads as it did. -/
def linOrdersSpec : ChangeSpec := { name := "linOrders", fn := fun _ => fun
  | [d1, d2, d3] => { results := [.lit (.bool true)], args := [d1, d2, d3] }
  | _ => none }
def linOrdersRow : OpenClaim := { program := "ytfdgklfkpofkeaa", sum := "3d26ee4c9071e9bc09c6f0d31dea81ccb7200fec92d45286d72e2ed743c694ca", func := "barograph/barographkeep.LinOrders", spec := "linOrders", unfollowed := true, recurses := true, plainKeys := false, apart := false }
def LinOrdersSaid : Prop := linOrdersRow.holds Try.pinned (OpenSpec.ofChange linOrdersSpec)

/-- ITS FALSE NEIGHBOUR: 'it returns false'. Refute it at one input. -/
def linOrdersWrong : ChangeSpec := { name := "linOrders", fn := fun _ => fun
  | [d1, d2, d3] => { results := [.lit (.bool false)], args := [d1, d2, d3] }
  | _ => none }
def LinOrdersWrongFalsely : Prop := linOrdersRow.holds Try.pinned (OpenSpec.ofChange linOrdersWrong)

/-- 'barographkeep.LinTells': WHATEVER THE INPUT: true; the input reads as it did. -/
def linTellsSpec : ChangeSpec := { name := "linTells", fn := fun _ => fun
  | [d1, d2, d3, d4, d5] => { results := [.lit (.bool true)], args := [d1, d2, d3, d4, d5] }
  | _ => none }
def linTellsRow : OpenClaim := { program := "ytfdgklfkpofkeaa", sum := "3d26ee4c9071e9bc09c6f0d31dea81ccb7200fec92d45286d72e2ed743c694ca", func := "barograph/barographkeep.LinTells", spec := "linTells", unfollowed := true, recurses := true, plainKeys := false, apart := false }
def LinTellsSaid : Prop := linTellsRow.holds Try.pinned (OpenSpec.ofChange linTellsSpec)

/-- ITS FALSE NEIGHBOUR: 'it returns false'. Refute it at one input. -/
def linTellsWrong : ChangeSpec := { name := "linTells", fn := fun _ => fun
  | [d1, d2, d3, d4, d5] => { results := [.lit (.bool false)], args := [d1, d2, d3, d4, d5] }
  | _ => none }
def LinTellsWrongFalsely : Prop := linTellsRow.holds Try.pinned (OpenSpec.ofChange linTellsWrong)

/-- 'barographkeep.LinPart': WHATEVER THE INPUT: true; the input reads as it did. -/
def linPartSpec : ChangeSpec := { name := "linPart", fn := fun _ => fun
  | [d1, d2, d3, d4] => { results := [.lit (.bool true)], args := [d1, d2, d3, d4] }
  | _ => none }
def linPartRow : OpenClaim := { program := "ytfdgklfkpofkeaa", sum := "3d26ee4c9071e9bc09c6f0d31dea81ccb7200fec92d45286d72e2ed743c694ca", func := "barograph/barographkeep.LinPart", spec := "linPart", unfollowed := true, recurses := true, plainKeys := false, apart := false }
def LinPartSaid : Prop := linPartRow.holds Try.pinned (OpenSpec.ofChange linPartSpec)

/-- ITS FALSE NEIGHBOUR: 'it returns false'. Refute it at one input. -/
def linPartWrong : ChangeSpec := { name := "linPart", fn := fun _ => fun
  | [d1, d2, d3, d4] => { results := [.lit (.bool false)], args := [d1, d2, d3, d4] }
  | _ => none }
def LinPartWrongFalsely : Prop := linPartRow.holds Try.pinned (OpenSpec.ofChange linPartWrong)

/-- 'barographkeep.LinOpen': WHATEVER THE INPUT: true; the input reads as it did. -/
def linOpenSpec : ChangeSpec := { name := "linOpen", fn := fun _ => fun
  | [d1, d2, d3, d4, d5, d6] => { results := [.lit (.bool true)], args := [d1, d2, d3, d4, d5, d6] }
  | _ => none }
def linOpenRow : OpenClaim := { program := "ytfdgklfkpofkeaa", sum := "3d26ee4c9071e9bc09c6f0d31dea81ccb7200fec92d45286d72e2ed743c694ca", func := "barograph/barographkeep.LinOpen", spec := "linOpen", unfollowed := true, recurses := true, plainKeys := false, apart := false }
def LinOpenSaid : Prop := linOpenRow.holds Try.pinned (OpenSpec.ofChange linOpenSpec)

/-- ITS FALSE NEIGHBOUR: 'it returns false'. Refute it at one input. -/
def linOpenWrong : ChangeSpec := { name := "linOpen", fn := fun _ => fun
  | [d1, d2, d3, d4, d5, d6] => { results := [.lit (.bool false)], args := [d1, d2, d3, d4, d5, d6] }
  | _ => none }
def LinOpenWrongFalsely : Prop := linOpenRow.holds Try.pinned (OpenSpec.ofChange linOpenWrong)

/-- 'barographkeep.LinTurned': WHATEVER THE INPUT: true; the input reads as it did. -/
def linTurnedSpec : ChangeSpec := { name := "linTurned", fn := fun _ => fun
  | [d1, d2, d3, d4, d5, d6] => { results := [.lit (.bool true)], args := [d1, d2, d3, d4, d5, d6] }
  | _ => none }
def linTurnedRow : OpenClaim := { program := "ytfdgklfkpofkeaa", sum := "3d26ee4c9071e9bc09c6f0d31dea81ccb7200fec92d45286d72e2ed743c694ca", func := "barograph/barographkeep.LinTurned", spec := "linTurned", unfollowed := true, recurses := true, plainKeys := false, apart := false }
def LinTurnedSaid : Prop := linTurnedRow.holds Try.pinned (OpenSpec.ofChange linTurnedSpec)

/-- ITS FALSE NEIGHBOUR: 'it returns false'. Refute it at one input. -/
def linTurnedWrong : ChangeSpec := { name := "linTurned", fn := fun _ => fun
  | [d1, d2, d3, d4, d5, d6] => { results := [.lit (.bool false)], args := [d1, d2, d3, d4, d5, d6] }
  | _ => none }
def LinTurnedWrongFalsely : Prop := linTurnedRow.holds Try.pinned (OpenSpec.ofChange linTurnedWrong)

/-- 'barographkeep.SelectBoth': WHATEVER THE INPUT: true; the input reads as it did. -/
def selectBothSpec : ChangeSpec := { name := "selectBoth", fn := fun _ => fun
  | [d1, d2, d3] => { results := [.lit (.bool true)], args := [d1, d2, d3] }
  | _ => none }
def selectBothRow : OpenClaim := { program := "ytfdgklfkpofkeaa", sum := "3d26ee4c9071e9bc09c6f0d31dea81ccb7200fec92d45286d72e2ed743c694ca", func := "barograph/barographkeep.SelectBoth", spec := "selectBoth", unfollowed := true, recurses := true, plainKeys := false, apart := false }
def SelectBothSaid : Prop := selectBothRow.holds Try.pinned (OpenSpec.ofChange selectBothSpec)

/-- ITS FALSE NEIGHBOUR: 'it returns false'. Refute it at one input. -/
def selectBothWrong : ChangeSpec := { name := "selectBoth", fn := fun _ => fun
  | [d1, d2, d3] => { results := [.lit (.bool false)], args := [d1, d2, d3] }
  | _ => none }
def SelectBothWrongFalsely : Prop := selectBothRow.holds Try.pinned (OpenSpec.ofChange selectBothWrong)

/-- 'barographkeep.SelectNot': WHATEVER THE INPUT: true; the input reads as it did. -/
def selectNotSpec : ChangeSpec := { name := "selectNot", fn := fun _ => fun
  | [d1, d2] => { results := [.lit (.bool true)], args := [d1, d2] }
  | _ => none }
def selectNotRow : OpenClaim := { program := "ytfdgklfkpofkeaa", sum := "3d26ee4c9071e9bc09c6f0d31dea81ccb7200fec92d45286d72e2ed743c694ca", func := "barograph/barographkeep.SelectNot", spec := "selectNot", unfollowed := true, recurses := true, plainKeys := false, apart := false }
def SelectNotSaid : Prop := selectNotRow.holds Try.pinned (OpenSpec.ofChange selectNotSpec)

/-- ITS FALSE NEIGHBOUR: 'it returns false'. Refute it at one input. -/
def selectNotWrong : ChangeSpec := { name := "selectNot", fn := fun _ => fun
  | [d1, d2] => { results := [.lit (.bool false)], args := [d1, d2] }
  | _ => none }
def SelectNotWrongFalsely : Prop := selectNotRow.holds Try.pinned (OpenSpec.ofChange selectNotWrong)

/-- 'barographkeep.ValuesAll': WHATEVER THE INPUT: true; the input reads as it did. -/
def valuesAllSpec : ChangeSpec := { name := "valuesAll", fn := fun _ => fun
  | [d1, d2] => { results := [.lit (.bool true)], args := [d1, d2] }
  | _ => none }
def valuesAllRow : OpenClaim := { program := "ytfdgklfkpofkeaa", sum := "3d26ee4c9071e9bc09c6f0d31dea81ccb7200fec92d45286d72e2ed743c694ca", func := "barograph/barographkeep.ValuesAll", spec := "valuesAll", unfollowed := true, recurses := true, plainKeys := false, apart := false }
def ValuesAllSaid : Prop := valuesAllRow.holds Try.pinned (OpenSpec.ofChange valuesAllSpec)

/-- ITS FALSE NEIGHBOUR: 'it returns false'. Refute it at one input. -/
def valuesAllWrong : ChangeSpec := { name := "valuesAll", fn := fun _ => fun
  | [d1, d2] => { results := [.lit (.bool false)], args := [d1, d2] }
  | _ => none }
def ValuesAllWrongFalsely : Prop := valuesAllRow.holds Try.pinned (OpenSpec.ofChange valuesAllWrong)

/- THE SECOND FORM. 'bulk': how many values and letters a reading holds, each counted each time it is reached (what is shared counts as often as it is met; a slice's spare places count too). A statement '..UptoSaid' is the law's where the arguments, and the package variables that the reading takes, are together of bulk at most 1048576: NARROWER than '..Said'. Prove '..Said' where nothing that the law and all that it calls make is longer than what came in: it says more and counts as full. Else prove '..UptoSaid'. A law counts once. -/
mutual
def uptoBulk {H : Type} : DataW H → Nat
  | .lit (.string bytes) => bytes.length + 1
  | .lit _ => 1
  | .nil => 1
  | .ptr d => uptoBulk d + 1
  | .slice elems spare => uptoBulkAll elems + uptoBulkAll spare + 1
  | .agg parts => uptoBulkAll parts + 1
  | .iface _ d => uptoBulk d + 1
  | .map entries => uptoBulkEntries entries + 1
  | .held _ => 1
def uptoBulkAll {H : Type} : List (DataW H) → Nat
  | [] => 0
  | d :: r => uptoBulk d + uptoBulkAll r
def uptoBulkEntries {H : Type} : List (Lit × DataW H) → Nat
  | [] => 0
  | x :: r => uptoBulkEntry x + uptoBulkEntries r
def uptoBulkEntry {H : Type} : Lit × DataW H → Nat
  | (.string bytes, d) => bytes.length + uptoBulk d + 1
  | (_, d) => uptoBulk d + 1
 end
def uptoSmall : (H : Type) → List (DataW H) → Bool := fun _ ds => decide (uptoBulkAll ds ≤ 1048576)
def OpenSpec.upto (s : _root_.Go.ChangeSpec) : _root_.Go.OpenSpec := { _root_.Go.OpenSpec.ofChange s with cond := some uptoSmall }

/-- 'barographkeep.LinOrders', WHERE WHAT IT READS IS OF BULK AT MOST 1048576: true; the input reads as it did. -/
def linOrdersUptoRow : OpenClaim := { program := "ytfdgklfkpofkeaa", sum := "3d26ee4c9071e9bc09c6f0d31dea81ccb7200fec92d45286d72e2ed743c694ca", func := "barograph/barographkeep.LinOrders", spec := "linOrders", unfollowed := true, recurses := true, plainKeys := false, apart := false, narrowed := true }
def LinOrdersUptoSaid : Prop := linOrdersUptoRow.holds Try.pinned (OpenSpec.upto linOrdersSpec)

/-- 'barographkeep.LinTells', WHERE WHAT IT READS IS OF BULK AT MOST 1048576: true; the input reads as it did. -/
def linTellsUptoRow : OpenClaim := { program := "ytfdgklfkpofkeaa", sum := "3d26ee4c9071e9bc09c6f0d31dea81ccb7200fec92d45286d72e2ed743c694ca", func := "barograph/barographkeep.LinTells", spec := "linTells", unfollowed := true, recurses := true, plainKeys := false, apart := false, narrowed := true }
def LinTellsUptoSaid : Prop := linTellsUptoRow.holds Try.pinned (OpenSpec.upto linTellsSpec)

/-- 'barographkeep.LinPart', WHERE WHAT IT READS IS OF BULK AT MOST 1048576: true; the input reads as it did. -/
def linPartUptoRow : OpenClaim := { program := "ytfdgklfkpofkeaa", sum := "3d26ee4c9071e9bc09c6f0d31dea81ccb7200fec92d45286d72e2ed743c694ca", func := "barograph/barographkeep.LinPart", spec := "linPart", unfollowed := true, recurses := true, plainKeys := false, apart := false, narrowed := true }
def LinPartUptoSaid : Prop := linPartUptoRow.holds Try.pinned (OpenSpec.upto linPartSpec)

/-- 'barographkeep.LinOpen', WHERE WHAT IT READS IS OF BULK AT MOST 1048576: true; the input reads as it did. -/
def linOpenUptoRow : OpenClaim := { program := "ytfdgklfkpofkeaa", sum := "3d26ee4c9071e9bc09c6f0d31dea81ccb7200fec92d45286d72e2ed743c694ca", func := "barograph/barographkeep.LinOpen", spec := "linOpen", unfollowed := true, recurses := true, plainKeys := false, apart := false, narrowed := true }
def LinOpenUptoSaid : Prop := linOpenUptoRow.holds Try.pinned (OpenSpec.upto linOpenSpec)

/-- 'barographkeep.LinTurned', WHERE WHAT IT READS IS OF BULK AT MOST 1048576: true; the input reads as it did. -/
def linTurnedUptoRow : OpenClaim := { program := "ytfdgklfkpofkeaa", sum := "3d26ee4c9071e9bc09c6f0d31dea81ccb7200fec92d45286d72e2ed743c694ca", func := "barograph/barographkeep.LinTurned", spec := "linTurned", unfollowed := true, recurses := true, plainKeys := false, apart := false, narrowed := true }
def LinTurnedUptoSaid : Prop := linTurnedUptoRow.holds Try.pinned (OpenSpec.upto linTurnedSpec)

/-- 'barographkeep.SelectBoth', WHERE WHAT IT READS IS OF BULK AT MOST 1048576: true; the input reads as it did. -/
def selectBothUptoRow : OpenClaim := { program := "ytfdgklfkpofkeaa", sum := "3d26ee4c9071e9bc09c6f0d31dea81ccb7200fec92d45286d72e2ed743c694ca", func := "barograph/barographkeep.SelectBoth", spec := "selectBoth", unfollowed := true, recurses := true, plainKeys := false, apart := false, narrowed := true }
def SelectBothUptoSaid : Prop := selectBothUptoRow.holds Try.pinned (OpenSpec.upto selectBothSpec)

/-- 'barographkeep.SelectNot', WHERE WHAT IT READS IS OF BULK AT MOST 1048576: true; the input reads as it did. -/
def selectNotUptoRow : OpenClaim := { program := "ytfdgklfkpofkeaa", sum := "3d26ee4c9071e9bc09c6f0d31dea81ccb7200fec92d45286d72e2ed743c694ca", func := "barograph/barographkeep.SelectNot", spec := "selectNot", unfollowed := true, recurses := true, plainKeys := false, apart := false, narrowed := true }
def SelectNotUptoSaid : Prop := selectNotUptoRow.holds Try.pinned (OpenSpec.upto selectNotSpec)

/-- 'barographkeep.ValuesAll', WHERE WHAT IT READS IS OF BULK AT MOST 1048576: true; the input reads as it did. -/
def valuesAllUptoRow : OpenClaim := { program := "ytfdgklfkpofkeaa", sum := "3d26ee4c9071e9bc09c6f0d31dea81ccb7200fec92d45286d72e2ed743c694ca", func := "barograph/barographkeep.ValuesAll", spec := "valuesAll", unfollowed := true, recurses := true, plainKeys := false, apart := false, narrowed := true }
def ValuesAllUptoSaid : Prop := valuesAllUptoRow.holds Try.pinned (OpenSpec.upto valuesAllSpec)

end Rows
end Go.Proofs.Ytfdgklfkpofkeaa
