/-
  Machines of three threads that put numbers of their own, or take: plain.
-/
import Derived.Test.YtiinnkdhccgelaaDoorMachN
import Derived.Test.YtiinnkdhccgelaaDoorRunMath
namespace Go.Proofs.YtiinnkdhccgelaaDoor
open Go.RowKit
set_option linter.unusedVariables false

/-- the call i: it takes, or puts its number -/
def ocall (off : Nat) (kinds : List Bool) (i : Nat) : VCall := if kinds.getD i false = true then ⟨1, []⟩ else ⟨0, [((off + i : Nat) : Int)]⟩
/-- the calls of thread j among the first n -/
def oths (off : Nat) (kinds : List Bool) : Nat → Nat → List VCall
  | 0, _ => []
  | n + 1, j => if n % 3 = j then oths off kinds n j ++ [ocall off kinds n] else oths off kinds n j
theorem oths_len (off : Nat) (kinds : List Bool) : ∀ (n j : Nat), j < 3 → (oths off kinds n j).length = (n + 2 - j) / 3
  | 0, j, h => by unfold oths; simp; omega
  | n + 1, j, h => by
    have ih := oths_len off kinds n j h
    unfold oths
    split
    · rw [List.length_append, ih, List.length_singleton]; omega
    · rw [ih]; omega
theorem oths_at (off : Nat) (kinds : List Bool) : ∀ (n j c : Nat), j < 3 → (oths off kinds n j)[c]? = if 3 * c + j < n then some (ocall off kinds (3 * c + j)) else none
  | 0, j, c, h => by unfold oths; simp
  | n + 1, j, c, h => by
    have ih := oths_at off kinds n j c h
    have hl := oths_len off kinds n j h
    unfold oths
    split
    · rw [List.getElem?_append, hl, ih]
      by_cases h1 : c < (n + 2 - j) / 3
      · rw [if_pos h1, if_pos (by omega), if_pos (by omega)]
      · rw [if_neg h1, List.getElem?_singleton]
        by_cases h2 : c = (n + 2 - j) / 3
        · rw [if_pos (by omega), if_pos (by omega), show 3 * c + j = n by omega]
        · rw [if_neg (by omega), if_neg (by omega)]
    · rw [ih]
      by_cases h1 : 3 * c + j < n
      · rw [if_pos h1, if_pos (by omega)]
      · rw [if_neg h1, if_neg (by omega)]
theorem oths_mem (off : Nat) (kinds : List Bool) : ∀ (n j : Nat) (c : VCall), c ∈ oths off kinds n j → ∃ i, i < n ∧ c = ocall off kinds i
  | 0, _, c, h => by cases h
  | n + 1, j, c, h => by
    unfold oths at h
    split at h
    · rcases List.mem_append.1 h with h | h
      · obtain ⟨i, h1, h2⟩ := oths_mem off kinds n j c h; exact ⟨i, by omega, h2⟩
      · exact ⟨n, by omega, List.mem_singleton.1 h⟩
    · obtain ⟨i, h1, h2⟩ := oths_mem off kinds n j c h; exact ⟨i, by omega, h2⟩
theorem oths_upd (off : Nat) (kinds : List Bool) {k j : Nat} (hj : k % 3 = j) : upd (oths off kinds k) j (oths off kinds k j ++ [ocall off kinds k]) = oths off kinds (k + 1) := by
  subst hj
  funext j
  unfold upd
  rw [show oths off kinds (k + 1) j = if k % 3 = j then oths off kinds k j ++ [ocall off kinds k] else oths off kinds k j from rfl]
  by_cases h : j = k % 3
  · subst h; simp
  · rw [if_neg h, if_neg (fun e => h e.symm)]
def omach (ws : List Int) (k1 k2 : List Op5) (off : Nat) (kinds : List Bool) (calls : Nat) : Mach := ⟨ws, [k1, k2], (List.range 3).map (oths off kinds calls)⟩
theorem oths_ok (off : Nat) (kinds : List Bool) {calls : Nat} (hc : calls ≤ 57) (j : Nat) (hj : j < 3) : (oths off kinds calls j).length ≤ 20 ∧ ∀ c ∈ oths off kinds calls j, c.code < 2 ∧ c.args.length ≤ 8 := by
  refine ⟨by rw [oths_len off kinds calls j hj]; omega, fun c hc' => ?_⟩
  obtain ⟨i, _, rfl⟩ := oths_mem off kinds calls j c hc'
  unfold ocall
  split
  · exact ⟨by simp, by simp⟩
  · exact ⟨by simp, by simp⟩
theorem omach_at {B : Nat} {w : World} {Cb T : Nat} {cv tv : Nat → Value} {av : Nat → List SV} {ws : List Int} {k1 k2 : List Op5} {off : Nat} {kinds : List Bool} {calls : Nat} (h : MN B w 2 3 Cb T cv (fun i => [k1, k2].getD i []) tv (oths off kinds calls) av)
    (l1 : k1.length ≤ 200) (l2 : k2.length ≤ 200) (s1 : ∀ o ∈ k1, OpSh k1.length o) (s2 : ∀ o ∈ k2, OpSh k2.length o) (hc : calls ≤ 57) : MachAt w (some ⟨Cb, 0, none⟩) 2 (some ⟨T, 0, none⟩) 3 (omach ws k1 k2 off kinds calls) := by
  refine h.at_ rfl rfl (fun i hi => ?_) (fun j hj => oths_ok off kinds hc j hj)
  rcases (show i = 0 ∨ i = 1 by omega) with rfl | rfl
  · exact ⟨l1, s1⟩
  · exact ⟨l2, s2⟩
end Go.Proofs.YtiinnkdhccgelaaDoor
