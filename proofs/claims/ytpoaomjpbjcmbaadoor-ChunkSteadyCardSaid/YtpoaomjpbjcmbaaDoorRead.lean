/-
  bits.Read: its walk; what was written is read.
-/
import Derived.Test.YtpoaomjpbjcmbaaDoorEye
namespace Go.Proofs.YtpoaomjpbjcmbaaDoor
open Go.RowKit
set_option linter.unusedVariables false

def readsAt (l : List UInt8) : Nat → List Nat → List Int
  | _, [] => []
  | i, k :: ks => (numOf (seen l i k) : Int) :: readsAt l (i + k) ks
theorem readsAt_snoc (l : List UInt8) (k : Nat) : ∀ (i : Nat) (ks : List Nat), readsAt l i (ks ++ [k]) = readsAt l i ks ++ [(numOf (seen l (i + ks.sum) k) : Int)]
  | i, [] => rfl
  | i, x :: ks => by
    rw [List.cons_append, readsAt, readsAt, readsAt_snoc l k (i + x) ks, List.sum_cons, Nat.add_assoc, List.cons_append]
theorem readsAt_len (l : List UInt8) : ∀ (i : Nat) (ks : List Nat), (readsAt l i ks).length = ks.length
  | _, [] => rfl
  | i, k :: ks => by rw [readsAt, List.length_cons, readsAt_len l (i + k) ks, List.length_cons]
theorem reads_back (l : List UInt8) : ∀ (x : List (Nat × Nat)) (i : Nat) (rest : List Bool), (unp l).drop i = fieldBits x ++ rest → (∀ f ∈ x, f.2 < 2 ^ f.1) →
    readsAt l i (x.map Prod.fst) = x.map fun f => (f.2 : Int)
  | [], _, _, _, _ => rfl
  | (k, v) :: x, i, rest, h, hx => by
    have e : fieldBits ((k, v) :: x) = bitsOf k v ++ fieldBits x := rfl
    rw [e, List.append_assoc] at h
    have h1 : seen l i k = bitsOf k v := by unfold seen; rw [h, List.take_left' (bitsOf_len k v)]
    have h2 : (unp l).drop (i + k) = fieldBits x ++ rest := by rw [← List.drop_drop, h, List.drop_left' (bitsOf_len k v)]
    rw [List.map_cons, List.map_cons, readsAt, h1, numOf_bitsOf k v (hx _ List.mem_cons_self), reads_back l x (i + k) rest h2 fun f hf => hx f (List.mem_cons_of_mem _ hf)]
theorem unp_append (a b : List UInt8) : unp (a ++ b) = unp a ++ unp b := by simp [unp]
theorem fieldBits_sum (x : List (Nat × Nat)) : (fieldBits x).length = (x.map Prod.fst).sum := by
  induction x with
  | nil => rfl
  | cons f x ih =>
    show (bitsOf f.1 f.2 ++ fieldBits x).length = _
    rw [List.length_append, bitsOf_len, ih, List.map_cons, List.sum_cons]
theorem reads_written (x : List (Nat × Nat)) (more : List UInt8) (hx : ∀ f ∈ x, f.2 < 2 ^ f.1) : readsAt (pack (fieldBits x) ++ more) 0 (x.map Prod.fst) = x.map fun f => (f.2 : Int) :=
  reads_back _ x 0 _ (by rw [List.drop_zero, unp_append, unp_pack, List.append_assoc]) hx

theorem Ow.chg {α : Type} {w0 w w' : World} {e sz : Nat} {g : α → List Value} {v : Value} {l : List α} {M : Nat → Prop} (h : Ow w0 w e sz g v l) (hc : Chg M w w') (hM : ∀ k, v.ownBlock = some k → ¬ M k) (hB : ∀ k, M k → w0.heap.size ≤ k) : Ow w0 w' e sz g v l :=
  ⟨own_chg h.own hc hM, h.below.trans (hc.below hB h.below.size)⟩
theorem eye_open (w : World) (A : Option Addr) (n c : Nat) : Calls Tryd.prog 43 #[.slice A n c] w fun e w' => e = .returned (.pointer (some ⟨w.heap.size, 0, none⟩)) ∧ w' = w.alloc (.cells (eyeO (.slice A n c) 0) 101) := by
  go_enter Tryd.func43, Tryd.ntmps43
  go_wp2
  go_ret
  exact ⟨rfl, rfl⟩
end Go.Proofs.YtpoaomjpbjcmbaaDoor
