/-
  Package sema, one behind the other: plain laws that the kernel goes through.
-/
import Derived.Test.YtnoinojhocicjaaDoorScan
import Derived.Test.YtnoinojhocicjaaDoorSemaLaw
namespace Go.Proofs.YtnoinojhocicjaaDoor
open Go.RowKit
set_option linter.unusedVariables false

def seT (R d : Nat) : Nat := d % R
def seC (R d : Nat) : Nat := if d / R % 2 = 0 then 6 else 5
def seW (R d : Nat) : Nat := d / R + 1
def seM (R : Nat) : Mach := rmach [(R : Int)] enterCode leaveCode 2 0
set_option maxRecDepth 1000000 in
theorem sema_ends1 : scan (seM 1) (partP (seT 1) (seC 1) (seW 1) 4) 0 (partsS (seT 1) (seC 1) 4) (pinit (seM 1)) = true := by decide +kernel
set_option maxRecDepth 1000000 in
theorem sema_ends2 : scan (seM 2) (partP (seT 2) (seC 2) (seW 2) 8) 0 (partsS (seT 2) (seC 2) 8) (pinit (seM 2)) = true := by decide +kernel
set_option maxRecDepth 1000000 in
theorem sema_ends3 : scan (seM 3) (partP (seT 3) (seC 3) (seW 3) 12) 0 (partsS (seT 3) (seC 3) 12) (pinit (seM 3)) = true := by decide +kernel
set_option maxRecDepth 1000000 in
theorem sema_ends4 : scan (seM 4) (partP (seT 4) (seC 4) (seW 4) 16) 0 (partsS (seT 4) (seC 4) 16) (pinit (seM 4)) = true := by decide +kernel
theorem sema_ends {R d i : Nat} (h1 : 1 ≤ R) (h4 : R ≤ 4) (hd : d < 4 * R) (hi : i ≤ seC R d) :
    NoErr (play (seM R) (partsS (seT R) (seC R) d ++ List.replicate i (d % R))).evs ∧ (endedN (doings (play (seM R) (partsS (seT R) (seC R) d ++ List.replicate i (d % R))).evs) (d % R) < d / R + 1 ↔ i < seC R d) := by
  rcases (show R = 1 ∨ R = 2 ∨ R = 3 ∨ R = 4 by omega) with rfl | rfl | rfl | rfl
  · exact parts_play sema_ends1 hd hi
  · exact parts_play sema_ends2 hd hi
  · exact parts_play sema_ends3 hd hi
  · exact parts_play sema_ends4 hd hi
end Go.Proofs.YtnoinojhocicjaaDoor
