/-
  Tags as numbers; names; strings of which a walk asks whether they are names: plain facts, and the walk of tags.name.
-/
import Derived.Test.YtfdgklfkpofkeaaNum
import Derived.Test.YtfdgklfkpofkeaaRow
import Derived.Test.YtfdgklfkpofkeaaMapV
import Derived.Laws.IdiomStrings
import Derived.Deep.QuietTactic
import Derived.Deep.RegionLaw
import Derived.Deep.CutBlock
import Derived.Deep.DeepCutAuto
namespace Go.Proofs.Ytfdgklfkpofkeaa
open Go.RowKit Go.Maps
set_option linter.unusedVariables false

/-- a byte of a name -/
def NmB (c : UInt8) : Prop := (97 ≤ c.toNat ∧ c.toNat ≤ 122) ∨ (48 ≤ c.toNat ∧ c.toNat ≤ 57)
/-- a name -/
structure Nam (s : ByteArray) : Prop where
  ok : ∀ c ∈ s.data.toList, NmB c
  l1 : 1 ≤ s.size
  l8 : s.size ≤ 8

set_option maxRecDepth 100000 in
set_option maxHeartbeats 2000000 in
theorem name_of (s : ByteArray) (w : World) (h : Nam s) : Calls Try.prog 27 #[.string s] w fun e w' => e = .returned (.bool true) ∧ Below w.heap.size w w' := by
  have H := hid h
  have l1 := h.l1
  have l8 := h.l8
  clear h
  have hcv := fun w : World => run_bytes_of_string (P := Try.prog) w 9 106 5 s Try.underlying9 Try.underlying106 Try.underlying5
  go_enter Try.func27, Try.ntmps27
  go_wp2_with fail
  obtain ⟨W, hW⟩ : ∃ W, (w.alloc (.cells (bytesRow s (grownCap w s.size 0 5)) 5 ((bytesRow s (grownCap w s.size 0 5)).size, (bytesRow s (grownCap w s.size 0 5)).size + 1))).drew = W := ⟨_, rfl⟩
  have BW := hid (show Below w.heap.size w W by rw [← hW]; exact (bnew (bnil w) _).drew)
  have HC := hid (show ∀ j (hj : j < s.data.size), W.cell? ⟨w.heap.size, j, none⟩ = some (.int .u8 (s.data[j].toNat : Int)) from fun j hj => by
    rw [← hW, cell_of_row _ w.heap.size j _ _ _ (by have := heap_alloc_new w (.cells (bytesRow s (grownCap w s.size 0 5)) 5 ((bytesRow s (grownCap w s.size 0 5)).size, (bytesRow s (grownCap w s.size 0 5)).size + 1)); exact this)]
    exact bytesRow_at s _ j hj)
  obtain ⟨m, hm⟩ : ∃ m, s.size = m := ⟨_, rfl⟩
  have HM := hid hm
  obtain ⟨cp, hcp⟩ : ∃ cp, grownCap w s.size 0 5 = cp := ⟨_, rfl⟩
  rw [hW]
  rw [hcp]
  simp only [hm]
  rw [hm] at l1 l8
  have hWcap : (m : Int) ≤ 8 := by omega
  have hm1 : (1 : Int) ≤ (m : Int) := by omega
  clear hW hm hcp hcv
  go_loopw [8] (fun i wr => ∃ k : Nat, k ≤ m ∧ i = .int .i64 k ∧ Hid (Below W.heap.size W wr)) (fun i _ => m - (intOf i).toNat)
  case atStart => exact ⟨0, Nat.zero_le _, rfl, hid (bnil _)⟩
  case round =>
    obtain ⟨k, hk, rfl, HW⟩ := hrel
    by_cases hlt : k < m
    · have hks : k < s.data.size := by have h : s.data.size = m := HM.out; omega
      have hc := cell_below HW.out (HC.out k hks)
      have hnm := H.out.ok s.data[k] (by simp)
      obtain ⟨c, hcc⟩ : ∃ c : Int, (s.data[k].toNat : Int) = c := ⟨_, rfl⟩
      rw [hcc] at hc
      have hn2 : (97 ≤ c ∧ c ≤ 122) ∨ (48 ≤ c ∧ c ≤ 57) := by unfold NmB at hnm; omega
      have i1 : (k : Int) < (m : Int) := by omega
      clear hnm hcc hks
      rcases hn2 with ⟨h1, h2⟩ | ⟨h1, h2⟩
      · have q1 : ¬ c < 97 := by omega
        have q2 : ¬ 122 < c := by omega
        go_wp2_with fail
        go_roundw
        case rel => exact ⟨k + 1, by omega, by go_num, HW⟩
        case measure => simp [intOf]; omega
      · have q1 : c < 97 := by omega
        have q2 : ¬ 57 < c := by omega
        have q3 : ¬ c < 48 := by omega
        go_wp2_with fail
        go_roundw
        case rel => exact ⟨k + 1, by omega, by go_num, HW⟩
        case measure => simp [intOf]; omega
    · obtain rfl : k = m := by omega
      have hm2 := HM.out
      go_wp2
      go_ret
      exact ⟨by simp, bgo BW.out HW.out⟩

/-! ### tags as pairs of numbers: the key's, and 0 or the value's -/
def kS : Nat → ByteArray
  | 0 => ⟨#[97]⟩
  | 1 => ⟨#[98]⟩
  | _ => ⟨#[99, 48]⟩
def vS : Nat → ByteArray
  | 0 => ⟨#[]⟩
  | 1 => ⟨#[120]⟩
  | 2 => ⟨#[121]⟩
  | _ => ⟨#[122, 57]⟩
theorem nam_k (k : Nat) : Nam (kS k) := by
  match k with
  | 0 => exact ⟨fun c hc => by simp [kS] at hc; subst hc; exact .inl ⟨by decide, by decide⟩, by decide, by decide⟩
  | 1 => exact ⟨fun c hc => by simp [kS] at hc; subst hc; exact .inl ⟨by decide, by decide⟩, by decide, by decide⟩
  | n + 2 => exact ⟨fun c hc => by simp [kS] at hc; rcases hc with rfl | rfl; exact .inl ⟨by decide, by decide⟩; exact .inr ⟨by decide, by decide⟩, by show 1 ≤ 2; decide, by show 2 ≤ 8; decide⟩
theorem nam_v (k : Nat) (h : k ≠ 0) : Nam (vS k) := by
  match k with
  | 0 => exact absurd rfl h
  | 1 => exact ⟨fun c hc => by simp [vS] at hc; subst hc; exact .inl ⟨by decide, by decide⟩, by decide, by decide⟩
  | 2 => exact ⟨fun c hc => by simp [vS] at hc; subst hc; exact .inl ⟨by decide, by decide⟩, by decide, by decide⟩
  | n + 3 => exact ⟨fun c hc => by simp [vS] at hc; rcases hc with rfl | rfl; exact .inl ⟨by decide, by decide⟩; exact .inr ⟨by decide, by decide⟩, by show 1 ≤ 2; decide, by show 2 ≤ 8; decide⟩
/-- keys in order; values with the empty one -/
theorem kS_eq : ∀ a < 3, ∀ b < 3, ((kS a).toList == (kS b).toList) = decide (a = b) := by decide +kernel
theorem vS_eq : ∀ a < 4, ∀ b < 4, ((vS a).toList == (vS b).toList) = decide (a = b) := by decide +kernel
theorem kS_lt : ∀ a < 3, ∀ b < 3, Op.bytesLess (kS a).toList (kS b).toList = decide (a < b) := by decide +kernel
/-- the tags of a number -/
def digT (n k : Nat) : Nat := n / 4 ^ k % 4
def tagsOf (n : Nat) : List (Nat × Nat) := ((List.range 3).filter fun k => decide (digT n k ≠ 0)).map fun k => (k, digT n k)
theorem tags_inj : ∀ a < 64, ∀ b < 64, tagsOf a = tagsOf b → a = b := by decide +kernel
theorem tags_ok : ∀ a < 64, (tagsOf a).length ≤ 3 ∧ (∀ t ∈ tagsOf a, t.1 < 3 ∧ 1 ≤ t.2 ∧ t.2 < 4) := by decide +kernel
theorem tags_asc : ∀ a < 64, (tagsOf a).Pairwise fun s t => s.1 < t.1 := by decide +kernel
/-- does a number have a tag (with 0: any value of the key)? -/
def hasT (n : Nat) (t : Nat × Nat) : Bool := if t.2 = 0 then decide (digT n t.1 ≠ 0) else decide (digT n t.1 = t.2)
theorem hasT_iff : ∀ a < 64, ∀ k < 3, ∀ j < 4, hasT a (k, j) = (tagsOf a).any fun t => t == (k, j) || (t.1 == k && j == 0) := by decide +kernel
abbrev gT : Nat × Nat → List Value := fun t => [.string (kS t.1), .string (vS t.2)]
theorem gT_one (t : Nat × Nat) : ∀ u ∈ gT t, u.oneCell' = true := by intro u hu; simp at hu; rcases hu with rfl | rfl <;> rfl
end Go.Proofs.Ytfdgklfkpofkeaa
