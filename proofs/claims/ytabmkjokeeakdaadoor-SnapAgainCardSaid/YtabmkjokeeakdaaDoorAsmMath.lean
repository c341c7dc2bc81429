/-
  Package asm, as plain functions: a code that is put together.
-/
import Derived.Test.YtabmkjokeeakdaaDoorVmMath
import Derived.Maps.Views
namespace Go.Proofs.YtabmkjokeeakdaaDoor
open Go.RowKit
set_option linter.unusedVariables false

abbrev Nm := List UInt8
/-- what the names of a list have last -/
def aget (l : List (Nm × Nat)) : Nm → Option Nat := l.foldl (fun f p s => if p.1 = s then some p.2 else f s) (fun _ => none)
structure AC where
  ops : List Op5
  places : List (Nm × Nat)
  gotos : List (Nat × Nm)
  regs : List (Nm × Nat)
deriving DecidableEq
def anew : AC := ⟨[], [], [], []⟩
def aregN (a : AC) (s : Nm) : Nat := (aget a.regs s).getD a.regs.length
def areg (s : Nm) (a : AC) : AC := match aget a.regs s with
  | some _ => a
  | none => { a with regs := a.regs ++ [(s, a.regs.length)] }
def aop (o : Op5) (a : AC) : AC := { a with ops := a.ops ++ [o] }
def aset (r : Nm) (n : Int) (a : AC) : AC := aop ⟨1, (aregN a r : Int), n, 0, 0⟩ (areg r a)
def ado (k : Int) (r x y : Nm) (a : AC) : AC := aop ⟨k, (aregN a r : Int), (aregN (areg r a) x : Int), (aregN (areg x (areg r a)) y : Int), 0⟩ (areg y (areg x (areg r a)))
def acopy (r x : Nm) (a : AC) : AC := aop ⟨2, (aregN a r : Int), (aregN (areg r a) x : Int), 0, 0⟩ (areg x (areg r a))
def aword (k : Int) (r x : Nm) (more : Int) (a : AC) : AC := aop ⟨k, (aregN a r : Int), (aregN (areg r a) x : Int), more, 0⟩ (areg x (areg r a))
def acas (nx x : Nm) (more : Int) (old : Nm) (a : AC) : AC := aop ⟨15, (aregN a nx : Int), (aregN (areg nx a) x : Int), more, (aregN (areg x (areg nx a)) old : Int)⟩ (areg old (areg x (areg nx a)))
def aat (p : Nm) (a : AC) : AC := { a with places := a.places ++ [(p, a.ops.length)] }
def agoto (p : Nm) (a : AC) : AC := aop ⟨10, 0, 0, 0, 0⟩ { a with gotos := a.gotos ++ [(a.ops.length, p)] }
def aif (k : Int) (r p : Nm) (a : AC) : AC := aop ⟨k, (aregN a r : Int), 0, 0, 0⟩ (areg r { a with gotos := a.gotos ++ [(a.ops.length, p)] })
def atell1 (r : Nm) (a : AC) : AC := aop ⟨16, (aregN a r : Int), 0, 0, 0⟩ (areg r a)
def atell (l : List Nm) (a : AC) : AC := l.foldl (fun a r => atell1 r a) a
def adone (a : AC) : AC := aop ⟨17, 0, 0, 0, 0⟩ a
/-- an instruction that goes on at a place -/
def ago (o : Op5) (to : Nat) : Op5 := if o.k = 10 then { o with a := (to : Int) } else { o with b := (to : Int) }
def alink (places : List (Nm × Nat)) : List (Nat × Nm) → List Op5 → List Op5
  | [], ops => ops
  | (i, p) :: l, ops => alink places l (match ops[i]? with
    | some o => ops.set i (ago o ((aget places p).getD 0))
    | none => ops)
def aops (a : AC) : List Op5 := alink a.places a.gotos a.ops

theorem aget_snoc (l : List (Nm × Nat)) (p : Nm × Nat) (s : Nm) : aget (l ++ [p]) s = if p.1 = s then some p.2 else aget l s := by unfold aget; rw [List.foldl_append]; rfl
theorem alink_len (places : List (Nm × Nat)) : ∀ (l : List (Nat × Nm)) (ops : List Op5), (alink places l ops).length = ops.length
  | [], ops => rfl
  | (i, p) :: l, ops => by
    unfold alink
    rw [alink_len places l]
    split <;> simp
/-! ### as maps -/
section
variable {H : Type}
def mapOf (l : List (Nm × Nat)) : DataW H := l.foldl (fun D p => D.put (.string p.1) (.lit (.int .i64 (p.2 : Int)))) (.map [])
theorem mapOf_snoc (l : List (Nm × Nat)) (p : Nm × Nat) : (mapOf (l ++ [p]) : DataW H) = (mapOf l).put (.string p.1) (.lit (.int .i64 (p.2 : Int))) := by unfold mapOf; rw [List.foldl_append]; rfl
theorem mapFold (l : List (Nm × Nat)) : ∀ (D : DataW H) (f : Nm → Option Nat), Maps.Tidy D → (∀ s, D.atKey (.string s) (.lit (.int .i64 0)) = .lit (.int .i64 (((f s).getD 0 : Nat) : Int))) → (∀ s, Maps.has D (.string s) = (f s).isSome) →
    Maps.Tidy (l.foldl (fun D p => D.put (.string p.1) (.lit (.int .i64 (p.2 : Int)))) D) ∧
    (∀ s, (l.foldl (fun D p => D.put (.string p.1) (.lit (.int .i64 (p.2 : Int)))) D).atKey (.string s) (.lit (.int .i64 0)) = .lit (.int .i64 ((((l.foldl (fun f p s => if p.1 = s then some p.2 else f s) f) s).getD 0 : Nat) : Int))) ∧
    (∀ s, Maps.has (l.foldl (fun D p => D.put (.string p.1) (.lit (.int .i64 (p.2 : Int)))) D) (.string s) = ((l.foldl (fun f p s => if p.1 = s then some p.2 else f s) f) s).isSome) := by
  induction l with
  | nil => intro D f h1 h2 h3; exact ⟨h1, h2, h3⟩
  | cons p l ih =>
    intro D f h1 h2 h3
    have hk : WideAt.IsKeyLit (.string p.1) := by first | trivial | simp [WideAt.IsKeyLit]
    refine ih _ _ (h1.put hk _) (fun s => ?_) (fun s => ?_)
    · show (D.put (.string p.1) (.lit (.int .i64 (p.2 : Int)))).atKey (.string s) (.lit (.int .i64 0)) = .lit (.int .i64 (((if p.1 = s then some p.2 else f s).getD 0 : Nat) : Int))
      by_cases e : p.1 = s
      · subst e; rw [if_pos rfl, Maps.atKey_put_same h1.isMap hk]; rfl
      · rw [if_neg e, Maps.atKey_put_other (fun h => e (by injection h with h; exact h.symm)), h2]
    · show Maps.has (D.put (.string p.1) (.lit (.int .i64 (p.2 : Int)))) (.string s) = (if p.1 = s then some p.2 else f s).isSome
      by_cases e : p.1 = s
      · subst e; rw [if_pos rfl, Maps.has_put_same h1.isMap hk]; rfl
      · rw [if_neg e, Maps.has_put_other (fun h => e (by injection h with h; exact h.symm)), h3]
theorem mapOf_all (l : List (Nm × Nat)) : Maps.Tidy (mapOf l : DataW H) ∧ (∀ s, (mapOf l : DataW H).atKey (.string s) (.lit (.int .i64 0)) = .lit (.int .i64 (((aget l s).getD 0 : Nat) : Int))) ∧ (∀ s, Maps.has (mapOf l : DataW H) (.string s) = (aget l s).isSome) :=
  mapFold l (.map []) (fun _ => none) Maps.tidy_empty (fun s => rfl) (fun s => rfl)
theorem mapOf_size (l : List (Nm × Nat)) (hl : ∀ k p, l[k]? = some p → aget (l.take k) p.1 = none) : Maps.size (mapOf l : DataW H) = l.length := by
  have key : ∀ k, k ≤ l.length → Maps.size (mapOf (l.take k) : DataW H) = k := by
    intro k
    induction k with
    | zero => intro _; rfl
    | succ k ih =>
      intro hk
      have hp : l[k]? = some l[k] := List.getElem?_eq_getElem (by omega)
      rw [List.take_add_one, hp]
      show Maps.size (mapOf (l.take k ++ [l[k]])) = _
      rw [mapOf_snoc, Maps.size_put (mapOf_all _).1, (mapOf_all _).2.2, hl k _ hp, ih (by omega)]
      rfl
  have := key l.length (Nat.le_refl _)
  rwa [List.take_length] at this
end
theorem areg_len (s : Nm) (a : AC) : (areg s a).regs.length ≤ a.regs.length + 1 := by
  unfold areg
  split
  · omega
  · simp
theorem areg_ops (s : Nm) (a : AC) : (areg s a).ops = a.ops := by unfold areg; split <;> rfl
theorem areg_len1 (a : AC) (r : Nm) : (areg r a).regs.length ≤ a.regs.length + 1 := areg_len r a
theorem areg_len2 (a : AC) (r x : Nm) : (areg x (areg r a)).regs.length ≤ a.regs.length + 2 := by
  have h1 := areg_len r a; have h2 := areg_len x (areg r a); omega
theorem areg_ops1 (a : AC) (r : Nm) : (areg r a).ops = a.ops := areg_ops r a
theorem areg_ops2 (a : AC) (r x : Nm) : (areg x (areg r a)).ops = a.ops := by rw [areg_ops, areg_ops]
theorem areg_ops3 (a : AC) (r x y : Nm) : (areg y (areg x (areg r a))).ops = a.ops := by rw [areg_ops, areg_ops, areg_ops]
/-- each register's name is named once -/
def ARegs (l : List (Nm × Nat)) : Prop := ∀ k p, l[k]? = some p → aget (l.take k) p.1 = none
theorem ARegs.snoc {l : List (Nm × Nat)} (h : ARegs l) {p : Nm × Nat} (hp : aget l p.1 = none) : ARegs (l ++ [p]) := by
  intro k q hq
  rw [List.getElem?_append] at hq
  split at hq
  · rename_i hk
    rw [List.take_append_of_le_length (by omega)]
    exact h k q hq
  · rw [List.getElem?_singleton] at hq
    split at hq
    · injection hq with hq; subst hq
      rw [List.take_append_of_le_length (by omega), List.take_of_length_le (by omega)]
      exact hp
    · cases hq
theorem ARegs.areg {a : AC} (h : ARegs a.regs) (s : Nm) : ARegs (Go.Proofs.YtabmkjokeeakdaaDoor.areg s a).regs := by
  unfold Go.Proofs.YtabmkjokeeakdaaDoor.areg
  split
  · exact h
  · rename_i hn; exact h.snoc hn
end Go.Proofs.YtabmkjokeeakdaaDoor
