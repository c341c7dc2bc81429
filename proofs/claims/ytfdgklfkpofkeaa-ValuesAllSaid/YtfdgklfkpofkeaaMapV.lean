/-
  A map of the call's own that holds values, whatever they are: what it holds as a function of the key; look-up, with and without 'ok', and store, at the operation.
-/
import Derived.Test.YtfdgklfkpofkeaaBase
import Derived.Maps.OwnSet
import Derived.Maps.OwnOps
namespace Go.Proofs.Ytfdgklfkpofkeaa
open Go.RowKit
open Go.Maps
set_option linter.unusedVariables false

/-- a reader that keeps the value itself -/
abbrev kept : Value → Option (DataW Value × List MemPlace) := fun v => some (.held v, [])

/-- block b of w is a map of at most n entries that holds f -/
def MapV (w : World) (P : Program) (K : TypeId) (b n : Nat) (f : Lit → Option Value) : Prop :=
  ∃ D : DataW Value, w.ownsMap P K kept b n D ∧ ∀ kl z, D.atKey kl z = match f kl with | some v => .held v | none => z

def updV (f : Lit → Option Value) (k : Lit) (v : Value) : Lit → Option Value := fun k' => if k'.sameKey k = true then some v else f k'

theorem updV_same {f : Lit → Option Value} {k : Lit} (hk : WideAt.IsKeyLit k) (v : Value) : updV f k v k = some v := by unfold updV; rw [if_pos (WideAt.sameKey_self hk)]
theorem updV_other {f : Lit → Option Value} {k k' : Lit} (h : k' ≠ k) (v : Value) : updV f k v k' = f k' := by unfold updV; rw [if_neg (by rw [sameKey_ne h]; decide)]
section
variable {w w' : World} {P : Program} {K : TypeId} {b n : Nat} {f : Lit → Option Value}
theorem MapV.made (w : World) (P : Program) (K : TypeId) : MapV (w.alloc (.map #[] 0)) P K w.heap.size 0 fun _ => none :=
  ⟨.map [], World.ownsMap_made w P K kept, fun _ _ => rfl⟩
theorem MapV.mono (h : MapV w P K b n f) {n' : Nat} (hn : n ≤ n') : MapV w P K b n' f := by
  obtain ⟨D, h1, h2⟩ := h; exact ⟨D, h1.mono hn, h2⟩
theorem MapV.lt (h : MapV w P K b n f) : b < w.heap.size := by obtain ⟨D, h1, _⟩ := h; exact h1.lt
theorem MapV.kept_ {row : Option Nat} (h : MapV w P K b n f) (hg : w.grownBy w' row) (hne : some b ≠ row) : MapV w' P K b n f := by
  obtain ⟨D, h1, h2⟩ := h; exact ⟨D, h1.kept hg hne, h2⟩
theorem MapV.alloc (h : MapV w P K b n f) (o : Obj) : MapV (w.alloc o) P K b n f := by
  obtain ⟨D, h1, h2⟩ := h; exact ⟨D, h1.alloc o, h2⟩
theorem MapV.drew (h : MapV w P K b n f) : MapV w.drew P K b n f := h
theorem MapV.setCell (h : MapV w P K b n f) {a : Addr} (ha : b ≠ a.block) (u : Value) : MapV (w.setCell a u) P K b n f := by
  obtain ⟨D, h1, h2⟩ := h; exact ⟨D, h1.setCell ha u, h2⟩
theorem MapV.chg {M : Nat → Prop} (h : MapV w P K b n f) (hc : Chg M w w') (hM : ¬ M b) : MapV w' P K b n f := by
  have hlt := h.lt
  obtain ⟨D, ⟨es, clock, hb, F, hs, hD⟩, h2⟩ := h
  exact ⟨D, ⟨es, clock, (hc.block b hlt hM).trans hb, F, hs, hD⟩, h2⟩
theorem MapV.below (h : MapV w P K b n f) (hb : Below w.heap.size w w') : MapV w' P K b n f := by
  have hlt := h.lt
  obtain ⟨D, ⟨es, clock, hb1, F, hs, hD⟩, h2⟩ := h
  exact ⟨D, ⟨es, clock, (hb.block b hlt).trans hb1, F, hs, hD⟩, h2⟩
theorem MapV.block (h : MapV w P K b n f) : ∃ es clock, w.heap[b]? = some (.map es clock) := by
  obtain ⟨D, ⟨es, clock, hb, _⟩, _⟩ := h; exact ⟨es, clock, hb⟩
theorem MapV.look {t e : TypeId} (h : MapV w P K b n f) (L : Keyed P K) (ht : P.underlying t = some (.map K e)) {z : Value} (hz : (zeroValue e).run P w = .ok z w) {key : Value} {kl : Lit} (hkey : keyOf P K key = some kl) :
    (Instr.lookup t (.map (some b)) key false).run P w = .ok ((f kl).getD z) w := by
  obtain ⟨D, h1, h2⟩ := h
  obtain ⟨v, ps, hrun, hv⟩ := h1.lookup L ht hz (zd := .held z) (zp := []) rfl hkey
  rw [h2 kl (.held z)] at hv
  rw [hrun]
  cases hf : f kl with
  | none => rw [hf] at hv; injection hv with hv; injection hv with hv _; injection hv with hv; rw [hv]; rfl
  | some u => rw [hf] at hv; injection hv with hv; injection hv with hv _; injection hv with hv; rw [hv]; rfl
theorem MapV.look_ok {t e : TypeId} (h : MapV w P K b n f) (L : Keyed P K) (ht : P.underlying t = some (.map K e)) {z : Value} (hz : (zeroValue e).run P w = .ok z w) {key : Value} {kl : Lit} (hkey : keyOf P K key = some kl) :
    (Instr.lookup t (.map (some b)) key true).run P w = .ok (.tuple #[(f kl).getD z, .bool (f kl).isSome]) w := by
  obtain ⟨D, h1, h2⟩ := h
  obtain ⟨v, ps, hrun, hv⟩ := h1.look_ok L ht hz (zd := .held z) (zp := []) rfl hkey
  rw [h2 kl (.held z)] at hv
  rw [hrun]
  cases hf : f kl with
  | none =>
    have : Maps.has D kl = false := Maps.has_false_of_atKey fun z => by rw [h2 kl z, hf]
    rw [hf] at hv; injection hv with hv; injection hv with hv _; injection hv with hv; rw [hv, this]; rfl
  | some u =>
    have : Maps.has D kl = true := Maps.has_true_of_atKey (y := .held u) fun z => by rw [h2 kl z, hf]
    rw [hf] at hv; injection hv with hv; injection hv with hv _; injection hv with hv; rw [hv, this]; rfl
theorem MapV.store {t e : TypeId} (h : MapV w P K b n f) (L : Keyed P K) (ht : P.underlying t = some (.map K e)) (hn : n < maxLen) {key val : Value} {kl : Lit} (hkey : keyOf P K key = some kl) :
    ∃ w', (Instr.mapUpdate t (.map (some b)) key val).run P w = .ok () w' ∧ MapV w' P K b (n + 1) (updV f kl val) ∧ w.grownBy w' (some b) := by
  obtain ⟨D, h1, h2⟩ := h
  obtain ⟨w', hrun, r1, r2⟩ := h1.update L ht hn hkey (val := val) (d := .held val) (ps := []) rfl
  refine ⟨w', hrun, ⟨D.put kl (.held val), r1, fun k' z => ?_⟩, r2⟩
  by_cases hk : k' = kl
  · subst hk
    rw [updV_same (L.key hkey)]
    exact atKey_put_same h1.isMap (L.key hkey) _ z
  · rw [updV_other hk, ← h2 k' z]
    exact atKey_put_other hk _ z
end

section
variable {P : Program} (w : World) {ops : Array Oper} {rest : List Oper} {o : Oper} {a : Act} {Q : Exit → Act → World → Prop}
theorem wpList_lookV (hg : o.guard = none) (m x : Operand) (t : TypeId) (hop : o.op = Op.lookup t m x false)
    (k e : TypeId) (K : Keyed P k) (ht : P.underlying t = some (.map k e)) {z : Value} (hz : (zeroValue e).run P w = .ok z w) (b n : Nat) (f : Lit → Option Value)
    (hm : a.eval m = .map (some b)) (hown : MapV w P k b n f) (key : Value) (kl : Lit) (hx : a.eval x = key) (hkey : keyOf P k key = some kl) (v : Value) (hv : (f kl).getD z = v)
    (hK : wpList P ops Q rest (a.put o.dst v) w) :
    wpList P ops Q (o :: rest) a w := by
  subst hv
  refine wpList_plain hg fun K' hK' => ?_
  have hrun := hown.look K ht hz hkey
  unfold Oper.wp
  simp [execOp, hop, hm, hx, hrun, Result.andThen]
  exact hK' _ _ hK
theorem wpList_lookV_ok (hg : o.guard = none) (m x : Operand) (t : TypeId) (hop : o.op = Op.lookup t m x true)
    (k e : TypeId) (K : Keyed P k) (ht : P.underlying t = some (.map k e)) {z : Value} (hz : (zeroValue e).run P w = .ok z w) (b n : Nat) (f : Lit → Option Value)
    (hm : a.eval m = .map (some b)) (hown : MapV w P k b n f) (key : Value) (kl : Lit) (hx : a.eval x = key) (hkey : keyOf P k key = some kl) (v : Value) (c : Bool) (hv : (f kl).getD z = v) (hc : (f kl).isSome = c)
    (hK : wpList P ops Q rest (a.put o.dst (.tuple #[v, .bool c])) w) :
    wpList P ops Q (o :: rest) a w := by
  subst hv; subst hc
  refine wpList_plain hg fun K' hK' => ?_
  have hrun := hown.look_ok K ht hz hkey
  unfold Oper.wp
  simp [execOp, hop, hm, hx, hrun, Result.andThen]
  exact hK' _ _ hK
theorem wpList_storeV (hg : o.guard = none) (m x v : Operand) (t : TypeId) (hop : o.op = Op.mapUpdate t m x v)
    (k e : TypeId) (K : Keyed P k) (ht : P.underlying t = some (.map k e)) (b n : Nat) (f : Lit → Option Value)
    (hm : a.eval m = .map (some b)) (hown : MapV w P k b n f) (hn : n < maxLen) (key val : Value) (kl : Lit) (hx : a.eval x = key) (hv : a.eval v = val) (hkey : keyOf P k key = some kl)
    (hK : ∀ w', Hid (MapV w' P k b (n + 1) (updV f kl val)) → Hid (w.grownBy w' (some b)) → wpList P ops Q rest (a.put o.dst undef) w') :
    wpList P ops Q (o :: rest) a w := by
  refine wpList_plain hg fun K' hK' => ?_
  obtain ⟨w', hrun, r1, r2⟩ := hown.store K ht hn hkey (val := val)
  unfold Oper.wp
  simp [execOp, hop, hm, hx, hv, hrun, Result.andThen]
  exact hK' _ _ (hK w' r1 r2)
theorem step_storeV {K' : Act → World → Prop} {D' : Prop} (hwn : Region.wanted o (yielded ops a.tmps) = true) (m x v : Operand) (t : TypeId) (hop : o.op = Op.mapUpdate t m x v)
    (k e : TypeId) (K : Keyed P k) (ht : P.underlying t = some (.map k e)) (b n : Nat) (f : Lit → Option Value)
    (hm : a.eval m = .map (some b)) (hown : MapV w P k b n f) (hn : n < maxLen) (key val : Value) (kl : Lit) (hx : a.eval x = key) (hv : a.eval v = val) (hkey : keyOf P k key = some kl)
    (hK : ∀ w', Hid (MapV w' P k b (n + 1) (updV f kl val)) → Hid (w.grownBy w' (some b)) → K' (a.put o.dst undef) w') :
    if Region.wanted o (yielded ops a.tmps) = true then Oper.wp P o a w K' Q else D' := by
  rw [if_pos hwn]
  obtain ⟨w', hrun, r1, r2⟩ := hown.store K ht hn hkey (val := val)
  unfold Oper.wp
  simp [execOp, hop, hm, hx, hv, hrun, Result.andThen]
  exact hK w' r1 r2
theorem step_lookV {K' : Act → World → Prop} {D' : Prop} (hwn : Region.wanted o (yielded ops a.tmps) = true) (m x : Operand) (t : TypeId) (hop : o.op = Op.lookup t m x false)
    (k e : TypeId) (K : Keyed P k) (ht : P.underlying t = some (.map k e)) {z : Value} (hz : (zeroValue e).run P w = .ok z w) (b n : Nat) (f : Lit → Option Value)
    (hm : a.eval m = .map (some b)) (hown : MapV w P k b n f) (key : Value) (kl : Lit) (hx : a.eval x = key) (hkey : keyOf P k key = some kl) (v : Value) (hv : (f kl).getD z = v)
    (hK : K' (a.put o.dst v) w) :
    if Region.wanted o (yielded ops a.tmps) = true then Oper.wp P o a w K' Q else D' := by
  subst hv
  rw [if_pos hwn]
  have hrun := hown.look K ht hz hkey
  unfold Oper.wp
  simp [execOp, hop, hm, hx, hrun, Result.andThen]
  exact hK
end
end Go.Proofs.Ytfdgklfkpofkeaa
