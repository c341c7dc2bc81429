/-
  No cell of these rows narrows 'for every input' (looked for: loops, veiled, ifaces, maps, wideKeys, modest, calm, conditions, laid).
  DERIVED. THE GIVEN ROWS OF THIS SEAT. 11 by the template 'for every input the law returns true; each argument reads behind the call as it read before'; 0 by the template 'total and deterministic' (their statements: YtejpcibcllnheaaTotals.lean).
  GIVEN WITH THE SEED: the statements are not yours to turn. If you find one false, say at which input.
  Laid BY PROGRAM, IN A SANDBOX (cutbox-rows.mjs): the forced cells as the released guide's own fill.sh prints them over the translation d30c4acb749838e4… (all of the seat's roots in one cut). By AI agents, Wed Nov 11 2026. No macro, syntax, notation, axiom, sorry.
-/
import Derived.Test.YtejpcibcllnheaaChecked
import GoSem.Claim
import GoSem.ClaimJoined
import GoSem.ClaimMapViews
import Derived.JoinedTies
import Derived.KernelRfl
namespace Go.Proofs.Ytejpcibcllnheaa
/- THE CELL 'sum', in the pinned program and in every row, IS THE sha256 OF THE DUMP (.gsa) THAT YtejpcibcllnheaaProg.lean LOADS. Nothing in Lean hashes anything: it is a label: what it is worth is what the hold of that sum in a sandbox is worth. -/
noncomputable def Try.pinned : Pinned := { name := "ytejpcibcllnheaa", sum := "d30c4acb749838e401ebd515ea023625a62309797b1e549b01d8181f7d332e56", checked := Try.checked }
namespace Rows
def none {H : Type} : Left H := { results := [], args := [] }

/-- 'barographkeep.AdlerSees': WHATEVER THE INPUT: true; the input reads as it did. -/
def adlerSeesSpec : ChangeSpec := { name := "adlerSees", fn := fun _ => fun
  | [d1, d2, d3] => { results := [.lit (.bool true)], args := [d1, d2, d3] }
  | _ => none }
def adlerSeesRow : OpenClaim := { program := "ytejpcibcllnheaa", sum := "d30c4acb749838e401ebd515ea023625a62309797b1e549b01d8181f7d332e56", func := "barograph/barographkeep.AdlerSees", spec := "adlerSees", apart := false }
def AdlerSeesSaid : Prop := adlerSeesRow.holds Try.pinned (OpenSpec.ofChange adlerSeesSpec)

/-- ITS FALSE NEIGHBOUR: 'it returns false'. Refute it at one input. -/
def adlerSeesWrong : ChangeSpec := { name := "adlerSees", fn := fun _ => fun
  | [d1, d2, d3] => { results := [.lit (.bool false)], args := [d1, d2, d3] }
  | _ => none }
def AdlerSeesWrongFalsely : Prop := adlerSeesRow.holds Try.pinned (OpenSpec.ofChange adlerSeesWrong)

/-- 'barographkeep.FoldBack': WHATEVER THE INPUT: true; the input reads as it did. -/
def foldBackSpec : ChangeSpec := { name := "foldBack", fn := fun _ => fun
  | [d1, d2] => { results := [.lit (.bool true)], args := [d1, d2] }
  | _ => none }
def foldBackRow : OpenClaim := { program := "ytejpcibcllnheaa", sum := "d30c4acb749838e401ebd515ea023625a62309797b1e549b01d8181f7d332e56", func := "barograph/barographkeep.FoldBack", spec := "foldBack", apart := false }
def FoldBackSaid : Prop := foldBackRow.holds Try.pinned (OpenSpec.ofChange foldBackSpec)

/-- ITS FALSE NEIGHBOUR: 'it returns false'. Refute it at one input. -/
def foldBackWrong : ChangeSpec := { name := "foldBack", fn := fun _ => fun
  | [d1, d2] => { results := [.lit (.bool false)], args := [d1, d2] }
  | _ => none }
def FoldBackWrongFalsely : Prop := foldBackRow.holds Try.pinned (OpenSpec.ofChange foldBackWrong)

/-- 'barographkeep.UnfoldBack': WHATEVER THE INPUT: true; the input reads as it did. -/
def unfoldBackSpec : ChangeSpec := { name := "unfoldBack", fn := fun _ => fun
  | [d1, d2] => { results := [.lit (.bool true)], args := [d1, d2] }
  | _ => none }
def unfoldBackRow : OpenClaim := { program := "ytejpcibcllnheaa", sum := "d30c4acb749838e401ebd515ea023625a62309797b1e549b01d8181f7d332e56", func := "barograph/barographkeep.UnfoldBack", spec := "unfoldBack", apart := false }
def UnfoldBackSaid : Prop := unfoldBackRow.holds Try.pinned (OpenSpec.ofChange unfoldBackSpec)

/-- ITS FALSE NEIGHBOUR: 'it returns false'. Refute it at one input. -/
def unfoldBackWrong : ChangeSpec := { name := "unfoldBack", fn := fun _ => fun
  | [d1, d2] => { results := [.lit (.bool false)], args := [d1, d2] }
  | _ => none }
def UnfoldBackWrongFalsely : Prop := unfoldBackRow.holds Try.pinned (OpenSpec.ofChange unfoldBackWrong)

/-- 'barographkeep.AdlerParts': WHATEVER THE INPUT: true; the input reads as it did. -/
def adlerPartsSpec : ChangeSpec := { name := "adlerParts", fn := fun _ => fun
  | [d1, d2] => { results := [.lit (.bool true)], args := [d1, d2] }
  | _ => none }
def adlerPartsRow : OpenClaim := { program := "ytejpcibcllnheaa", sum := "d30c4acb749838e401ebd515ea023625a62309797b1e549b01d8181f7d332e56", func := "barograph/barographkeep.AdlerParts", spec := "adlerParts", apart := false }
def AdlerPartsSaid : Prop := adlerPartsRow.holds Try.pinned (OpenSpec.ofChange adlerPartsSpec)

/-- ITS FALSE NEIGHBOUR: 'it returns false'. Refute it at one input. -/
def adlerPartsWrong : ChangeSpec := { name := "adlerParts", fn := fun _ => fun
  | [d1, d2] => { results := [.lit (.bool false)], args := [d1, d2] }
  | _ => none }
def AdlerPartsWrongFalsely : Prop := adlerPartsRow.holds Try.pinned (OpenSpec.ofChange adlerPartsWrong)

/-- 'barographkeep.AdlerSlid': WHATEVER THE INPUT: true; the input reads as it did. -/
def adlerSlidSpec : ChangeSpec := { name := "adlerSlid", fn := fun _ => fun
  | [d1, d2] => { results := [.lit (.bool true)], args := [d1, d2] }
  | _ => none }
def adlerSlidRow : OpenClaim := { program := "ytejpcibcllnheaa", sum := "d30c4acb749838e401ebd515ea023625a62309797b1e549b01d8181f7d332e56", func := "barograph/barographkeep.AdlerSlid", spec := "adlerSlid", apart := false }
def AdlerSlidSaid : Prop := adlerSlidRow.holds Try.pinned (OpenSpec.ofChange adlerSlidSpec)

/-- ITS FALSE NEIGHBOUR: 'it returns false'. Refute it at one input. -/
def adlerSlidWrong : ChangeSpec := { name := "adlerSlid", fn := fun _ => fun
  | [d1, d2] => { results := [.lit (.bool false)], args := [d1, d2] }
  | _ => none }
def AdlerSlidWrongFalsely : Prop := adlerSlidRow.holds Try.pinned (OpenSpec.ofChange adlerSlidWrong)

/-- 'barographkeep.BitsSplit': WHATEVER THE INPUT: true; the input reads as it did. -/
def bitsSplitSpec : ChangeSpec := { name := "bitsSplit", fn := fun _ => fun
  | [d1, d2, d3, d4] => { results := [.lit (.bool true)], args := [d1, d2, d3, d4] }
  | _ => none }
def bitsSplitRow : OpenClaim := { program := "ytejpcibcllnheaa", sum := "d30c4acb749838e401ebd515ea023625a62309797b1e549b01d8181f7d332e56", func := "barograph/barographkeep.BitsSplit", spec := "bitsSplit", apart := false }
def BitsSplitSaid : Prop := bitsSplitRow.holds Try.pinned (OpenSpec.ofChange bitsSplitSpec)

/-- ITS FALSE NEIGHBOUR: 'it returns false'. Refute it at one input. -/
def bitsSplitWrong : ChangeSpec := { name := "bitsSplit", fn := fun _ => fun
  | [d1, d2, d3, d4] => { results := [.lit (.bool false)], args := [d1, d2, d3, d4] }
  | _ => none }
def BitsSplitWrongFalsely : Prop := bitsSplitRow.holds Try.pinned (OpenSpec.ofChange bitsSplitWrong)

/-- 'barographkeep.BitsOrder': WHATEVER THE INPUT: true; the input reads as it did. -/
def bitsOrderSpec : ChangeSpec := { name := "bitsOrder", fn := fun _ => fun
  | [d1, d2, d3] => { results := [.lit (.bool true)], args := [d1, d2, d3] }
  | _ => none }
def bitsOrderRow : OpenClaim := { program := "ytejpcibcllnheaa", sum := "d30c4acb749838e401ebd515ea023625a62309797b1e549b01d8181f7d332e56", func := "barograph/barographkeep.BitsOrder", spec := "bitsOrder", apart := false }
def BitsOrderSaid : Prop := bitsOrderRow.holds Try.pinned (OpenSpec.ofChange bitsOrderSpec)

/-- ITS FALSE NEIGHBOUR: 'it returns false'. Refute it at one input. -/
def bitsOrderWrong : ChangeSpec := { name := "bitsOrder", fn := fun _ => fun
  | [d1, d2, d3] => { results := [.lit (.bool false)], args := [d1, d2, d3] }
  | _ => none }
def BitsOrderWrongFalsely : Prop := bitsOrderRow.holds Try.pinned (OpenSpec.ofChange bitsOrderWrong)

/-- 'barographkeep.BitsBack': WHATEVER THE INPUT: true; the input reads as it did. -/
def bitsBackSpec : ChangeSpec := { name := "bitsBack", fn := fun _ => fun
  | [d1, d2, d3] => { results := [.lit (.bool true)], args := [d1, d2, d3] }
  | _ => none }
def bitsBackRow : OpenClaim := { program := "ytejpcibcllnheaa", sum := "d30c4acb749838e401ebd515ea023625a62309797b1e549b01d8181f7d332e56", func := "barograph/barographkeep.BitsBack", spec := "bitsBack", apart := false }
def BitsBackSaid : Prop := bitsBackRow.holds Try.pinned (OpenSpec.ofChange bitsBackSpec)

/-- ITS FALSE NEIGHBOUR: 'it returns false'. Refute it at one input. -/
def bitsBackWrong : ChangeSpec := { name := "bitsBack", fn := fun _ => fun
  | [d1, d2, d3] => { results := [.lit (.bool false)], args := [d1, d2, d3] }
  | _ => none }
def BitsBackWrongFalsely : Prop := bitsBackRow.holds Try.pinned (OpenSpec.ofChange bitsBackWrong)

/-- 'barographkeep.FileBack': WHATEVER THE INPUT: true; the input reads as it did. -/
def fileBackSpec : ChangeSpec := { name := "fileBack", fn := fun _ => fun
  | [d] => { results := [.lit (.bool true)], args := [d] }
  | _ => none }
def fileBackRow : OpenClaim := { program := "ytejpcibcllnheaa", sum := "d30c4acb749838e401ebd515ea023625a62309797b1e549b01d8181f7d332e56", func := "barograph/barographkeep.FileBack", spec := "fileBack", apart := false }
def FileBackSaid : Prop := fileBackRow.holds Try.pinned (OpenSpec.ofChange fileBackSpec)

/-- ITS FALSE NEIGHBOUR: 'it returns false'. Refute it at one input. -/
def fileBackWrong : ChangeSpec := { name := "fileBack", fn := fun _ => fun
  | [d] => { results := [.lit (.bool false)], args := [d] }
  | _ => none }
def FileBackWrongFalsely : Prop := fileBackRow.holds Try.pinned (OpenSpec.ofChange fileBackWrong)

/-- 'barographkeep.FileTorn': WHATEVER THE INPUT: true; the input reads as it did. -/
def fileTornSpec : ChangeSpec := { name := "fileTorn", fn := fun _ => fun
  | [d1, d2] => { results := [.lit (.bool true)], args := [d1, d2] }
  | _ => none }
def fileTornRow : OpenClaim := { program := "ytejpcibcllnheaa", sum := "d30c4acb749838e401ebd515ea023625a62309797b1e549b01d8181f7d332e56", func := "barograph/barographkeep.FileTorn", spec := "fileTorn", apart := false }
def FileTornSaid : Prop := fileTornRow.holds Try.pinned (OpenSpec.ofChange fileTornSpec)

/-- ITS FALSE NEIGHBOUR: 'it returns false'. Refute it at one input. -/
def fileTornWrong : ChangeSpec := { name := "fileTorn", fn := fun _ => fun
  | [d1, d2] => { results := [.lit (.bool false)], args := [d1, d2] }
  | _ => none }
def FileTornWrongFalsely : Prop := fileTornRow.holds Try.pinned (OpenSpec.ofChange fileTornWrong)

/-- 'barographkeep.FileSees': WHATEVER THE INPUT: true; the input reads as it did. -/
def fileSeesSpec : ChangeSpec := { name := "fileSees", fn := fun _ => fun
  | [d1, d2, d3, d4] => { results := [.lit (.bool true)], args := [d1, d2, d3, d4] }
  | _ => none }
def fileSeesRow : OpenClaim := { program := "ytejpcibcllnheaa", sum := "d30c4acb749838e401ebd515ea023625a62309797b1e549b01d8181f7d332e56", func := "barograph/barographkeep.FileSees", spec := "fileSees", apart := false }
def FileSeesSaid : Prop := fileSeesRow.holds Try.pinned (OpenSpec.ofChange fileSeesSpec)

/-- ITS FALSE NEIGHBOUR: 'it returns false'. Refute it at one input. -/
def fileSeesWrong : ChangeSpec := { name := "fileSees", fn := fun _ => fun
  | [d1, d2, d3, d4] => { results := [.lit (.bool false)], args := [d1, d2, d3, d4] }
  | _ => none }
def FileSeesWrongFalsely : Prop := fileSeesRow.holds Try.pinned (OpenSpec.ofChange fileSeesWrong)

/- THE SECOND FORM. 'bulk': how many values and letters a reading holds, each counted each time it is reached (what is shared counts as often as it is met; a slice's spare places count too). A statement '..UptoSaid' is the law's where the arguments, and the package variables that the reading takes, are together of bulk at most 1048576: NARROWER than '..Said'. Prove '..Said' where nothing that the law and all that it calls make is longer than what came in: it says more and counts as full. Else prove '..UptoSaid'. A law counts once. -/
mutual
def uptoBulk {H : Type} : DataW H → Nat
  | .lit (.string bytes) => bytes.length + 1
  | .lit _ => 1
  | .nil => 1
  | .ptr d => uptoBulk d + 1
  | .slice elems spare => uptoBulkAll elems + uptoBulkAll spare + 1
  | .agg parts => uptoBulkAll parts + 1
  | .iface _ d => uptoBulk d + 1
  | .map entries => uptoBulkEntries entries + 1
  | .held _ => 1
def uptoBulkAll {H : Type} : List (DataW H) → Nat
  | [] => 0
  | d :: r => uptoBulk d + uptoBulkAll r
def uptoBulkEntries {H : Type} : List (Lit × DataW H) → Nat
  | [] => 0
  | x :: r => uptoBulkEntry x + uptoBulkEntries r
def uptoBulkEntry {H : Type} : Lit × DataW H → Nat
  | (.string bytes, d) => bytes.length + uptoBulk d + 1
  | (_, d) => uptoBulk d + 1
 end
def uptoSmall : (H : Type) → List (DataW H) → Bool := fun _ ds => decide (uptoBulkAll ds ≤ 1048576)
def OpenSpec.upto (s : _root_.Go.ChangeSpec) : _root_.Go.OpenSpec := { _root_.Go.OpenSpec.ofChange s with cond := some uptoSmall }

/-- 'barographkeep.AdlerSees', WHERE WHAT IT READS IS OF BULK AT MOST 1048576: true; the input reads as it did. -/
def adlerSeesUptoRow : OpenClaim := { program := "ytejpcibcllnheaa", sum := "d30c4acb749838e401ebd515ea023625a62309797b1e549b01d8181f7d332e56", func := "barograph/barographkeep.AdlerSees", spec := "adlerSees", apart := false, narrowed := true }
def AdlerSeesUptoSaid : Prop := adlerSeesUptoRow.holds Try.pinned (OpenSpec.upto adlerSeesSpec)

/-- 'barographkeep.FoldBack', WHERE WHAT IT READS IS OF BULK AT MOST 1048576: true; the input reads as it did. -/
def foldBackUptoRow : OpenClaim := { program := "ytejpcibcllnheaa", sum := "d30c4acb749838e401ebd515ea023625a62309797b1e549b01d8181f7d332e56", func := "barograph/barographkeep.FoldBack", spec := "foldBack", apart := false, narrowed := true }
def FoldBackUptoSaid : Prop := foldBackUptoRow.holds Try.pinned (OpenSpec.upto foldBackSpec)

/-- 'barographkeep.UnfoldBack', WHERE WHAT IT READS IS OF BULK AT MOST 1048576: true; the input reads as it did. -/
def unfoldBackUptoRow : OpenClaim := { program := "ytejpcibcllnheaa", sum := "d30c4acb749838e401ebd515ea023625a62309797b1e549b01d8181f7d332e56", func := "barograph/barographkeep.UnfoldBack", spec := "unfoldBack", apart := false, narrowed := true }
def UnfoldBackUptoSaid : Prop := unfoldBackUptoRow.holds Try.pinned (OpenSpec.upto unfoldBackSpec)

/-- 'barographkeep.AdlerParts', WHERE WHAT IT READS IS OF BULK AT MOST 1048576: true; the input reads as it did. -/
def adlerPartsUptoRow : OpenClaim := { program := "ytejpcibcllnheaa", sum := "d30c4acb749838e401ebd515ea023625a62309797b1e549b01d8181f7d332e56", func := "barograph/barographkeep.AdlerParts", spec := "adlerParts", apart := false, narrowed := true }
def AdlerPartsUptoSaid : Prop := adlerPartsUptoRow.holds Try.pinned (OpenSpec.upto adlerPartsSpec)

/-- 'barographkeep.AdlerSlid', WHERE WHAT IT READS IS OF BULK AT MOST 1048576: true; the input reads as it did. -/
def adlerSlidUptoRow : OpenClaim := { program := "ytejpcibcllnheaa", sum := "d30c4acb749838e401ebd515ea023625a62309797b1e549b01d8181f7d332e56", func := "barograph/barographkeep.AdlerSlid", spec := "adlerSlid", apart := false, narrowed := true }
def AdlerSlidUptoSaid : Prop := adlerSlidUptoRow.holds Try.pinned (OpenSpec.upto adlerSlidSpec)

/-- 'barographkeep.BitsSplit', WHERE WHAT IT READS IS OF BULK AT MOST 1048576: true; the input reads as it did. -/
def bitsSplitUptoRow : OpenClaim := { program := "ytejpcibcllnheaa", sum := "d30c4acb749838e401ebd515ea023625a62309797b1e549b01d8181f7d332e56", func := "barograph/barographkeep.BitsSplit", spec := "bitsSplit", apart := false, narrowed := true }
def BitsSplitUptoSaid : Prop := bitsSplitUptoRow.holds Try.pinned (OpenSpec.upto bitsSplitSpec)

/-- 'barographkeep.BitsOrder', WHERE WHAT IT READS IS OF BULK AT MOST 1048576: true; the input reads as it did. -/
def bitsOrderUptoRow : OpenClaim := { program := "ytejpcibcllnheaa", sum := "d30c4acb749838e401ebd515ea023625a62309797b1e549b01d8181f7d332e56", func := "barograph/barographkeep.BitsOrder", spec := "bitsOrder", apart := false, narrowed := true }
def BitsOrderUptoSaid : Prop := bitsOrderUptoRow.holds Try.pinned (OpenSpec.upto bitsOrderSpec)

/-- 'barographkeep.BitsBack', WHERE WHAT IT READS IS OF BULK AT MOST 1048576: true; the input reads as it did. -/
def bitsBackUptoRow : OpenClaim := { program := "ytejpcibcllnheaa", sum := "d30c4acb749838e401ebd515ea023625a62309797b1e549b01d8181f7d332e56", func := "barograph/barographkeep.BitsBack", spec := "bitsBack", apart := false, narrowed := true }
def BitsBackUptoSaid : Prop := bitsBackUptoRow.holds Try.pinned (OpenSpec.upto bitsBackSpec)

/-- 'barographkeep.FileBack', WHERE WHAT IT READS IS OF BULK AT MOST 1048576: true; the input reads as it did. -/
def fileBackUptoRow : OpenClaim := { program := "ytejpcibcllnheaa", sum := "d30c4acb749838e401ebd515ea023625a62309797b1e549b01d8181f7d332e56", func := "barograph/barographkeep.FileBack", spec := "fileBack", apart := false, narrowed := true }
def FileBackUptoSaid : Prop := fileBackUptoRow.holds Try.pinned (OpenSpec.upto fileBackSpec)

/-- 'barographkeep.FileTorn', WHERE WHAT IT READS IS OF BULK AT MOST 1048576: true; the input reads as it did. -/
def fileTornUptoRow : OpenClaim := { program := "ytejpcibcllnheaa", sum := "d30c4acb749838e401ebd515ea023625a62309797b1e549b01d8181f7d332e56", func := "barograph/barographkeep.FileTorn", spec := "fileTorn", apart := false, narrowed := true }
def FileTornUptoSaid : Prop := fileTornUptoRow.holds Try.pinned (OpenSpec.upto fileTornSpec)

/-- 'barographkeep.FileSees', WHERE WHAT IT READS IS OF BULK AT MOST 1048576: true; the input reads as it did. -/
def fileSeesUptoRow : OpenClaim := { program := "ytejpcibcllnheaa", sum := "d30c4acb749838e401ebd515ea023625a62309797b1e549b01d8181f7d332e56", func := "barograph/barographkeep.FileSees", spec := "fileSees", apart := false, narrowed := true }
def FileSeesUptoSaid : Prop := fileSeesUptoRow.holds Try.pinned (OpenSpec.upto fileSeesSpec)

end Rows
end Go.Proofs.Ytejpcibcllnheaa
