/-
  From the reading of an argument to the facts that a walk takes: a slice that came in reads as a list, whatever its elements.
-/
import Derived.Test.YtfdgklfkpofkeaaBase
import Derived.ProofKit
import Derived.OpenShut
import Derived.ShutString
import Derived.ChangeOld
import Derived.SizedLaws
import Derived.Deep.Slices
namespace Go.Proofs.Ytfdgklfkpofkeaa
open Go.RowKit Go.ChangeShapes Go.WideShapes Go.Deep
set_option linter.unusedVariables false

section
variable {H : Type} {enc : TypeId × Value → H} {P : Program} {W : World}

theorem list_of_fun {α : Type} (n : Nat) (R : Nat → α → Prop) (h : ∀ i, i < n → ∃ x, R i x) : ∃ l : List α, l.length = n ∧ ∀ i x, l[i]? = some x → R i x := by
  induction n with
  | zero => exact ⟨[], rfl, by simp⟩
  | succ n ih =>
    obtain ⟨l, hl, hr⟩ := ih fun i hi => h i (by omega)
    obtain ⟨x, hx⟩ := h n (by omega)
    refine ⟨l ++ [x], by simp [hl], fun i y hy => ?_⟩
    by_cases hi : i < l.length
    · rw [List.getElem?_append_left hi] at hy; exact hr i y hy
    · rw [List.getElem?_append_right (by omega)] at hy
      have : i = n := by
        by_cases h0 : i - l.length = 0
        · omega
        · rw [List.getElem?_eq_none (by simp; omega)] at hy; cases hy
      subst this
      rw [hl, Nat.sub_self] at hy
      simp at hy; subst hy; exact hx

theorem rd_slice {α : Type} (g : α → List Value) (Pr : α → Prop) {t e : TypeId} {A : Option Addr} {len cap : Nat} {d : DataW H} {p : List MemPlace} (k : Nat) (ht : P.underlying t = some (.slice e)) (hk : P.cellsOf e = k) (h0k : 0 < k) (hg : ∀ x, (g x).length = k)
    (hel : ∀ n cs y, DataW.trod enc P W 0 (fun _ => true) true n e cs = some y → cs.length = k → ∃ x, cs = g x ∧ Pr x)
    (h : DataW.Trod enc P W 0 (fun _ => true) true t (.slice A len cap) d p) :
    len ≤ cap ∧ cap ≤ maxLen ∧ ((∀ n ∈ d.weights P t, n ≤ reachBytes) → cap * P.bytesOf e ≤ reachBytes) ∧ ∃ l : List α, l.length = len ∧ Sl W k A len (l.flatMap g) ∧ ∀ x ∈ l, Pr x := by
  subst hk
  obtain ⟨fuel, hf⟩ := h
  rcases open_slice ht hf with ⟨hcs, hx⟩ | ⟨a, len', cap', m, n, D, Pl, hcs, _, hl, hm, hmm, hx, hi⟩
  · simp [Value.cells] at hcs
    obtain ⟨rfl, rfl, rfl⟩ := hcs
    exact ⟨Nat.le_refl _, by simp [maxLen], fun _ => by simp, [], rfl, Sl.nil _, by simp⟩
  · simp [Value.cells] at hcs
    obtain ⟨rfl, rfl, rfl⟩ := hcs
    simp only [if_true] at hmm
    subst hmm
    simp only [Prod.mk.injEq] at hx
    obtain ⟨hd, -⟩ := hx
    refine ⟨hl, hm, fun hw => ?_, ?_⟩
    · have := hw ((len + (m - len)) * P.bytesOf e) (by subst hd; simp [DataW.weights, ht])
      rwa [show len + (m - len) = m by omega] at this
    · obtain ⟨l, hll, hlr⟩ := list_of_fun len (fun i x => (∀ j, j < P.cellsOf e → W.cell? (a.add (i * P.cellsOf e + j)) = (g x)[j]?) ∧ Pr x) fun i hil => by
        obtain ⟨cs', hc, ht'⟩ := hi i (by omega)
        obtain ⟨_, hcl, hat⟩ := World.cells?_some hc
        obtain ⟨x, rfl, hp⟩ := hel n cs' _ ht' hcl
        exact ⟨x, fun j hj => by rw [← ad_ad]; exact hat j hj, hp⟩
      refine ⟨l, hll, ⟨by rw [flatMap_len g _ hg, hll], fun _ => ⟨a, rfl, fun j u hu => ?_⟩⟩, fun x hx => ?_⟩
      · have hjl : j < l.length * P.cellsOf e := by
          rw [← flatMap_len g _ hg l]
          exact (List.getElem?_eq_some_iff.1 hu).1
        have hq : j / P.cellsOf e < l.length := Nat.div_lt_of_lt_mul (by rw [Nat.mul_comm]; exact hjl)
        have hr : j % P.cellsOf e < P.cellsOf e := Nat.mod_lt _ h0k
        have hdm : j = j / P.cellsOf e * P.cellsOf e + j % P.cellsOf e := by rw [Nat.mul_comm]; exact (Nat.div_add_mod j _).symm
        have hlx : l[j / P.cellsOf e]? = some l[j / P.cellsOf e] := List.getElem?_eq_getElem hq
        rw [hdm, flatMap_at g _ hg l _ _ _ hlx hr] at hu
        rw [hdm, (hlr _ _ hlx).1 _ hr]
        exact hu
      · obtain ⟨i, hil, rfl⟩ := List.getElem_of_mem hx
        exact (hlr i _ (List.getElem?_eq_getElem hil)).2

theorem wf_byte {z : Int} (h : (Lit.int .u8 z).wf = true) : z = ((UInt8.ofNat z.toNat).toNat : Int) := by
  simp [Lit.wf, IntKind.min, IntKind.max, IntKind.signed, IntKind.bits] at h
  simp; omega
theorem wf_int {z : Int} (h : (Lit.int .i64 z).wf = true) : -9223372036854775808 ≤ z ∧ z ≤ 9223372036854775807 := by
  simp [Lit.wf, IntKind.min, IntKind.max, IntKind.signed, IntKind.bits] at h
  omega
theorem wf_u8 {z : Int} (h : (Lit.int .u8 z).wf = true) : 0 ≤ z ∧ z < 256 := by
  simp [Lit.wf, IntKind.min, IntKind.max, IntKind.signed, IntKind.bits] at h
  omega

theorem rd_bytes {t e : TypeId} {A : Option Addr} {len cap : Nat} {d : DataW H} {p : List MemPlace} (ht : P.underlying t = some (.slice e)) (he : P.underlying e = some (.int .u8)) (hk : P.cellsOf e = 1)
    (h : DataW.Trod enc P W 0 (fun _ => true) true t (.slice A len cap) d p) :
    len ≤ cap ∧ cap ≤ maxLen ∧ ((∀ n ∈ d.weights P t, n ≤ reachBytes) → cap * P.bytesOf e ≤ reachBytes) ∧ ∃ l : List UInt8, Sl W 1 A len (byts l) := by
  obtain ⟨h1, h2, h3, l, hl, hs, _⟩ := rd_slice (fun x : UInt8 => [Value.int .u8 (x.toNat : Int)]) (fun _ => True) 1 ht hk (by decide) (fun _ => rfl) (fun n cs y hy _ => by
    obtain ⟨z, hz, _, hw⟩ := DataW.trod_int he hy
    exact ⟨UInt8.ofNat z.toNat, by rw [hz, ← wf_byte hw], trivial⟩) h
  exact ⟨h1, h2, h3, l, hs⟩
theorem rd_ints {t e : TypeId} {A : Option Addr} {len cap : Nat} {d : DataW H} {p : List MemPlace} (ht : P.underlying t = some (.slice e)) (he : P.underlying e = some (.int .i64)) (hk : P.cellsOf e = 1)
    (h : DataW.Trod enc P W 0 (fun _ => true) true t (.slice A len cap) d p) :
    len ≤ cap ∧ cap ≤ maxLen ∧ ((∀ n ∈ d.weights P t, n ≤ reachBytes) → cap * P.bytesOf e ≤ reachBytes) ∧ ∃ l : List Int, Sl W 1 A len (ints l) ∧ ∀ x ∈ l, -9223372036854775808 ≤ x ∧ x ≤ 9223372036854775807 := by
  obtain ⟨h1, h2, h3, l, hl, hs, hp⟩ := rd_slice (fun x : Int => [Value.int .i64 x]) (fun x => -9223372036854775808 ≤ x ∧ x ≤ 9223372036854775807) 1 ht hk (by decide) (fun _ => rfl) (fun n cs y hy _ => by
    obtain ⟨z, hz, _, hw⟩ := DataW.trod_int he hy
    exact ⟨z, hz, wf_int hw⟩) h
  exact ⟨h1, h2, h3, l, hs, hp⟩
end
end Go.Proofs.Ytfdgklfkpofkeaa
