/-
  A range over a map of the call's own with any values (MapV): which entries are still to come, the step.
-/
import Derived.Test.YtfdgklfkpofkeaaMapV
import Derived.Maps.RangeWalk
namespace Go.Proofs.Ytfdgklfkpofkeaa
open Go.RowKit Go.Maps
set_option linter.unusedVariables false

/-- a range over a map that holds f is under way; left: the keys that are still to come -/
def RngV (w : World) (P : Program) (K : TypeId) (b r n : Nat) (f : Lit → Option Value) (left : Lit → Bool) (cnt : Nat) : Prop :=
  ∃ D : DataW Value, w.ranges P K kept b r n D left cnt ∧ ∀ kl z, D.atKey kl z = match f kl with | some v => .held v | none => z
section
variable {w w' : World} {P : Program} {K : TypeId} {b r n : Nat} {f : Lit → Option Value} {left : Lit → Bool} {cnt : Nat}
theorem RngV.map (h : RngV w P K b r n f left cnt) : MapV w P K b n f := by obtain ⟨D, h1, h2⟩ := h; exact ⟨D, h1.owns, h2⟩
theorem RngV.left_eq (h : RngV w P K b r n f left cnt) : w.rangeLeft b r = cnt := by obtain ⟨D, h1, _⟩ := h; exact h1.left_eq
theorem RngV.ne (h : RngV w P K b r n f left cnt) : r ≠ b := by obtain ⟨D, h1, _⟩ := h; exact h1.ne
theorem RngV.lt (h : RngV w P K b r n f left cnt) : r < w.heap.size := by obtain ⟨D, h1, _⟩ := h; exact h1.lt
theorem RngV.kept_ {row : Option Nat} (h : RngV w P K b r n f left cnt) (hg : w.grownBy w' row) (h1 : some b ≠ row) (h2 : some r ≠ row) : RngV w' P K b r n f left cnt := by
  obtain ⟨D, h3, h4⟩ := h; exact ⟨D, h3.kept hg h1 h2, h4⟩
theorem RngV.alloc (h : RngV w P K b r n f left cnt) (o : Obj) : RngV (w.alloc o) P K b r n f left cnt := by obtain ⟨D, h3, h4⟩ := h; exact ⟨D, h3.alloc o, h4⟩
theorem has_of {D : DataW Value} (h : ∀ kl z, D.atKey kl z = match f kl with | some v => .held v | none => z) (kl : Lit) : Maps.has D kl = (f kl).isSome := by
  cases hf : f kl with
  | none => exact has_false_of_atKey fun z => by rw [h, hf]
  | some v => exact has_true_of_atKey (y := .held v) fun z => by rw [h, hf]
end
section
variable {P : Program} (w : World) {ops : Array Oper} {rest : List Oper} {o : Oper} {a : Act} {Q : Exit → Act → World → Prop}
theorem wpList_rangeV (hg : o.guard = none) (m : Operand) (t : TypeId) (hop : o.op = Op.range t m) (k e : TypeId) (K : Keyed P k) (ht : P.underlying t = some (.map k e)) (b n : Nat) (f : Lit → Option Value)
    (hm : a.eval m = .map (some b)) (hown : MapV w P k b n f)
    (hK : ∀ w' left cnt, Hid (RngV w' P k b w.heap.size n f left cnt) → Hid (∀ kl, left kl = (f kl).isSome) → Hid (w.grownBy w' none) → w'.heap.size = w.heap.size + 1 → cnt ≤ n → wpList P ops Q rest (a.put o.dst (.pointer (some ⟨w.heap.size, 0, none⟩))) w') :
    wpList P ops Q (o :: rest) a w := by
  obtain ⟨D, h1, h2⟩ := hown
  exact wpList_range_own w hg m t hop k e K ht kept b n D hm h1 fun w' r1 r2 r3 => hK w' _ _ ⟨D, r1, h2⟩ (fun kl => has_of h2 kl) r2 r3 h1.size_le
theorem wpList_nextV (hg : o.guard = none) (it : Operand) (hop : o.op = Op.next it false) (k : TypeId) (K : Keyed P k) (b r n : Nat) (f : Lit → Option Value) (left : Lit → Bool) (cnt : Nat)
    (hit : a.eval it = .pointer (some ⟨r, 0, none⟩)) (h : RngV w P k b r n f left cnt)
    (hDone : (∀ kl, left kl = false) → wpList P ops Q rest (a.put o.dst (.tuple #[.bool false])) w)
    (hMore : ∀ (x c : Value) (kl : Lit) (w' : World) (cnt' : Nat), keyOf P k x = some kl → left kl = true → f kl = some c → Hid (RngV w' P k b r n f (fun z => left z && !z.sameKey kl) cnt') → cnt' < cnt →
      Hid (w.grownBy w' (some r)) → w'.heap.size = w.heap.size → (Instr.entry (.pointer (some ⟨r, 0, none⟩))).run P w' = .ok (.tuple #[x, c]) w' → wpList P ops Q rest (a.put o.dst (.tuple #[.bool true, x, c])) w') :
    wpList P ops Q (o :: rest) a w := by
  obtain ⟨D, h1, h2⟩ := h
  refine wpList_next_ranges w hg it hop k K kept id id (fun key kl _ => ⟨key, rfl⟩) (fun v y _ => ⟨v, rfl⟩) b r n D left cnt hit h1 (fun _ hl => hDone hl) fun x c kl y w' cnt' hk hl hy hat hrg hlt hgr hsz hen => ?_
  refine hMore x c kl w' cnt' hk hl ?_ ⟨D, hrg, h2⟩ hlt hgr hsz hen
  have hy1 : y.1 = .held c := by injection hy with hy; rw [← hy]; rfl
  have h3 : ∀ zd, D.atKey kl zd = .held c := fun zd => (hat zd).trans hy1
  cases hf : f kl with
  | none =>
    have h4 := h3 .nil
    rw [h2, hf] at h4
    cases h4
  | some v =>
    have h4 := h3 .nil
    rw [h2, hf] at h4
    injection h4 with h4
    rw [h4]
end
end Go.Proofs.Ytfdgklfkpofkeaa
