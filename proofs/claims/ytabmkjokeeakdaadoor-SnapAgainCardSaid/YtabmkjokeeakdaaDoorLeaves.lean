/-
  barographkeep.leaves: its walk.
-/
import Derived.Test.YtabmkjokeeakdaaDoorDsAt
namespace Go.Proofs.YtabmkjokeeakdaaDoor
open Go.RowKit
set_option linter.unusedVariables false

/-- where the call two behind a call begins -/
def leavesOf : List Dg → Dg → Nat
  | [], _ => 1073741824
  | x :: ds, d => if x.t = d.t ∧ x.c = d.c + 2 then x.b else leavesOf ds d
theorem leaves_skip (d : Dg) : ∀ (ds : List Dg) (k : Nat), (∀ j x, j < k → ds[j]? = some x → ¬ (x.t = d.t ∧ x.c = d.c + 2)) → leavesOf ds d = leavesOf (ds.drop k) d
  | _, 0, _ => rfl
  | [], k + 1, _ => by simp
  | y :: ds, k + 1, h => by
    have h0 := h 0 y (Nat.succ_pos k) rfl
    rw [leavesOf, if_neg h0, List.drop_succ_cons]
    exact leaves_skip d ds k fun j x hj hx => h (j + 1) x (by omega) (by rw [List.getElem?_cons_succ]; exact hx)
theorem leaves_hit {d : Dg} {ds : List Dg} {k : Nat} {x : Dg} (hn : ∀ j x, j < k → ds[j]? = some x → ¬ (x.t = d.t ∧ x.c = d.c + 2)) (hx : ds[k]? = some x) (h : x.t = d.t ∧ x.c = d.c + 2) : leavesOf ds d = x.b := by
  rw [leaves_skip d ds k hn]
  have hl := (List.getElem?_eq_some_iff.1 hx).1
  have he := (List.getElem?_eq_some_iff.1 hx).2
  rw [List.drop_eq_getElem_cons hl, he, leavesOf, if_pos h]
end Go.Proofs.YtabmkjokeeakdaaDoor
