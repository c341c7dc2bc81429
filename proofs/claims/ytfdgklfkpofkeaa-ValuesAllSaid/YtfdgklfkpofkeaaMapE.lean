/-
  'm[k] = append(m[k], v)' as the code has it: the entry first, then the store into it; on a map that holds values.
-/
import Derived.Test.YtfdgklfkpofkeaaMapV
import Derived.WideKeyEntry
namespace Go.Proofs.Ytfdgklfkpofkeaa
open Go.RowKit
open Go.Maps Go.ChangeMaps Go.MapKept
set_option linter.unusedVariables false

/-- behind the entry: a store into it is a store at the key -/
def EntV (w1 : World) (P : Program) (K t : TypeId) (b n : Nat) (f : Lit → Option Value) (kl : Lit) (st : Nat) : Prop :=
  ∃ es1 clock1, w1.heap[b]? = some (.map es1 clock1) ∧ ∀ (w2 : World) (val : Value), w2.heap[b]? = some (.map es1 clock1) →
    ∃ w3, (Instr.entryStore t (.map (some b)) (goInt st) val).run P w2 = .ok () w3 ∧ MapV w3 P K b (n + 1) (updV f kl val) ∧ w2.grownBy w3 (some b)
theorem EntV.kept_ {w1 w2 : World} {P : Program} {K t : TypeId} {b n : Nat} {f : Lit → Option Value} {kl : Lit} {st : Nat} {row : Option Nat} (h : EntV w1 P K t b n f kl st) (hg : w1.grownBy w2 row) (hne : some b ≠ row) : EntV w2 P K t b n f kl st := by
  obtain ⟨es, clock, hb, hall⟩ := h
  exact ⟨es, clock, (hg.block b (Array.getElem?_eq_some_iff.1 hb).1 hne).trans hb, hall⟩
theorem EntV.alloc {w1 : World} {P : Program} {K t : TypeId} {b n : Nat} {f : Lit → Option Value} {kl : Lit} {st : Nat} (h : EntV w1 P K t b n f kl st) (o : Obj) : EntV (w1.alloc o) P K t b n f kl st :=
  h.kept_ (World.grownBy_alloc w1 o none) (by simp)
theorem MapV.entry {w : World} {P : Program} {K t e : TypeId} {b n : Nat} {f : Lit → Option Value} (h : MapV w P K b n f) (L : WideMaps.KeyLaw P K) (ht : P.underlying t = some (.map K e)) {z : Value} (hz : ∀ u : World, (zeroValue e).run P u = .ok z u) (hn : n < maxLen) {key : Value} {kl : Lit} (hkey : keyOf P K key = some kl) :
    ∃ (st : Nat) (w1 : World), (Instr.mapEntry t (.map (some b)) key).run P w = .ok (.tuple #[(f kl).getD z, goInt st]) w1 ∧ w.grownBy w1 (some b) ∧ EntV w1 P K t b n f kl st := by
  have KL := Keyed.of_law L
  have hlook := h.look KL ht (hz w) hkey
  obtain ⟨D, ⟨es, clock, hb, F, hs, hD⟩, h2⟩ := h
  obtain ⟨v0, st, es1, clock1, hrun, hv0, hall⟩ := WideElems.entry_then_store L ht hz hb F hkey
  have hv : v0 = (f kl).getD z := by
    have hnd := ((MapKept.stamped_iff es clock).1 F.stamped).2.2
    rcases Maps.fit_look false KL ht (hz w) hb F hkey with ⟨h3, h4, _⟩ | ⟨e0, y, h3, h4, h5, _⟩
    · rw [hlook] at h3
      have e1 : (f kl).getD z = z := by simpa using h3
      rcases hv0 with ⟨e0, m0, k0, rfl⟩ | ⟨_, rfl⟩
      · exact absurd k0 (h4 e0 m0)
      · exact e1.symm
    · rw [hlook] at h5
      have e1 : (f kl).getD z = e0.val := by simpa using h5
      rcases hv0 with ⟨e2, m2, k2, rfl⟩ | ⟨h6, _⟩
      · have : e2 = e0 := by
          obtain ⟨i, hi⟩ := List.getElem?_of_mem m2
          obtain ⟨j, hj⟩ := List.getElem?_of_mem h3
          obtain ⟨li, ei⟩ := List.getElem?_eq_some_iff.1 hi
          obtain ⟨lj, ej⟩ := List.getElem?_eq_some_iff.1 hj
          rw [List.pairwise_iff_getElem] at hnd
          rcases Nat.lt_trichotomy i j with h | h | h
          · exact absurd (by rw [ei, ej, k2, h4]) (hnd i j li lj h)
          · subst h; rw [hi] at hj; injection hj
          · exact absurd (by rw [ei, ej, k2, h4]) (hnd j i lj li h)
        rw [e1, this]
      · exact absurd h4 (h6 e0 h3)
  rw [hv] at hrun
  have hgrow : ∀ (w0 : World) (x : Array MapEntry) (c c0 : Nat) (x0 : Array MapEntry), w0.heap[b]? = some (.map x0 c0) → w0.grownBy (ChangeMaps.setBlock w0 b (.map x c)) (some b) := fun w0 x c c0 x0 h0 =>
    ⟨rfl, rfl, rfl, by simp [ChangeMaps.setBlock], fun i _ hi => heap_setBlock_other h0 _ (fun e => hi (by rw [e]))⟩
  refine ⟨st, _, hrun, hgrow w es1 clock1 clock es hb, es1, clock1, heap_setBlock_same hb _, fun w2 val hw2 => ?_⟩
  obtain ⟨es', clock', hst, hup⟩ := hall w2 val hw2
  refine ⟨_, hst, ?_, hgrow w2 es' clock' clock1 es1 hw2⟩
  obtain ⟨w', hr, hm, _⟩ := (show MapV w P K b n f from ⟨D, ⟨es, clock, hb, F, hs, hD⟩, h2⟩).store KL ht hn hkey (val := val)
  rw [hup] at hr
  have hw' : ChangeMaps.setBlock w b (.map es' clock') = w' := by injection hr
  subst hw'
  obtain ⟨D', ⟨es3, clock3, hb3, r3⟩, h3⟩ := hm
  rw [heap_setBlock_same hb] at hb3
  injection hb3 with hb3
  injection hb3 with e1 e2
  subst e1; subst e2
  exact ⟨D', ⟨es', clock', heap_setBlock_same hw2 _, r3⟩, h3⟩

section
variable {P : Program} (w : World) {ops : Array Oper} {rest : List Oper} {o : Oper} {a : Act} {Q : Exit → Act → World → Prop}
theorem wpList_entV (hg : o.guard = none) (m x : Operand) (t : TypeId) (hop : o.op = Op.mapEntry t m x)
    (k e : TypeId) (L : WideMaps.KeyLaw P k) (ht : P.underlying t = some (.map k e)) {z : Value} (hz : ∀ u : World, (zeroValue e).run P u = .ok z u) (b n : Nat) (f : Lit → Option Value)
    (hm : a.eval m = .map (some b)) (hown : MapV w P k b n f) (hn : n < maxLen) (key : Value) (kl : Lit) (hx : a.eval x = key) (hkey : keyOf P k key = some kl) (v : Value) (hv : (f kl).getD z = v)
    (hK : ∀ (st : Nat) (w' : World), Hid (EntV w' P k t b n f kl st) → Hid (w.grownBy w' (some b)) → wpList P ops Q rest (a.put o.dst (.tuple #[v, goInt st])) w') :
    wpList P ops Q (o :: rest) a w := by
  subst hv
  refine wpList_plain hg fun K' hK' => ?_
  obtain ⟨st, w1, hrun, r1, r2⟩ := hown.entry L ht hz hn hkey
  unfold Oper.wp
  simp [execOp, hop, hm, hx, hrun, Result.andThen]
  exact hK' _ _ (hK st w1 r2 r1)
theorem wpList_entStoreV (hg : o.guard = none) (m s v : Operand) (t : TypeId) (hop : o.op = Op.entryStore t m s v)
    (k : TypeId) (b n st : Nat) (f : Lit → Option Value) (kl : Lit) (hm : a.eval m = .map (some b)) (hs : a.eval s = goInt st) (val : Value) (hv : a.eval v = val) (hE : EntV w P k t b n f kl st)
    (hK : ∀ w', Hid (MapV w' P k b (n + 1) (updV f kl val)) → Hid (w.grownBy w' (some b)) → wpList P ops Q rest (a.put o.dst undef) w') :
    wpList P ops Q (o :: rest) a w := by
  refine wpList_plain hg fun K' hK' => ?_
  obtain ⟨es1, clock1, hb, hall⟩ := hE
  obtain ⟨w3, hrun, r1, r2⟩ := hall w val hb
  unfold Oper.wp
  simp [execOp, hop, hm, hs, hv, hrun, Result.andThen]
  exact hK' _ _ (hK w3 r1 r2)
end
end Go.Proofs.Ytfdgklfkpofkeaa
