/-
  Schedule: numbers below n, at most so many: its walk.
-/
import Derived.Test.YtabmkjokeeakdaaDoorRunMem
namespace Go.Proofs.YtabmkjokeeakdaaDoor
open Go.RowKit
set_option linter.unusedVariables false

def schedN (l : List UInt8) (N M : Nat) : List Nat := (l.take M).map fun x => x.toNat % N
theorem schedN_len (l : List UInt8) (N M : Nat) : (schedN l N M).length = min M l.length := by unfold schedN; simp
theorem schedN_lt (l : List UInt8) {N : Nat} (hN : 0 < N) (M : Nat) : ∀ x ∈ schedN l N M, x < N := by
  intro x hx
  unfold schedN at hx
  obtain ⟨y, _, rfl⟩ := List.mem_map.1 hx
  exact Nat.mod_lt _ hN
abbrev nats (l : List Nat) : List Int := l.map fun x : Nat => (x : Int)
theorem schedule_n (A : Option Addr) (n c N M : Nat) (l : List UInt8) (w : World) (hn : n ≤ 9223372036854775807) (hN : 0 < N) (hN2 : N ≤ 200) (hM : M ≤ 6000) (h : Sl w 1 A n (byts l)) :
    Calls Tryd.prog 15 #[.slice A n c, .int .i64 (N : Int), .int .i64 (M : Int)] w fun e w' => ∃ v, e = .returned v ∧ Ow w w' 3 1 gI v (nats (schedN l N M)) := by
  have H := hid h; clear h
  have HL := hid H.out.lenb
  have hz : ¬ ((N : Int) = 0) := by omega
  have hz2 : ((N : Int) == 0) = false := by simp; omega
  go_enter Tryd.func15, Tryd.ntmps15
  go_wp2
  go_loopw [7, 8] (fun v i wr => ∃ (k : Nat) (A1 : Option Addr) (c1 : Nat), k ≤ M ∧ k ≤ n ∧ i = .int .i64 k ∧ v = .slice A1 k c1 ∧ Hid (Ow w wr 3 1 gI (.slice A1 k c1) (nats (schedN l N k)))) (fun _ i _ => M - (intOf i).toNat)
  case atStart => exact ⟨0, none, 0, Nat.zero_le _, Nat.zero_le _, rfl, rfl, hid (Ow.nil _ _ _ _)⟩
  case round =>
    obtain ⟨k, A1, c1, hk, hkn, rfl, rfl, HO⟩ := hrel
    by_cases h1 : k < n
    · have i1 : (k : Int) < (n : Int) := by omega
      by_cases h2 : k < M
      · have i2 : (k : Int) < (M : Int) := by omega
        obtain ⟨ad, x, rfl, hx, cx⟩ := (H.out.below HO.out.below).at_ h1
        have x0 := byte_ge x
        have x1 := byte_lt x
        have HX := hid hx
        obtain ⟨X, hX⟩ : ∃ X, x.toNat = X := ⟨_, rfl⟩
        rw [hX] at cx x0 x1
        obtain ⟨r, hr⟩ : ∃ r, X % N = r := ⟨_, rfl⟩
        have em : (X : Int).tmod (N : Int) = (r : Int) := by rw [Int.tmod_eq_emod_of_nonneg (by omega), ← hr]; omega
        have hr2 : r < N := by rw [← hr]; exact Nat.mod_lt _ hN
        have iw : IntKind.i64.wrap (r : Int) = (r : Int) := IntWalk.i64_in _ (by omega)
        obtain ⟨y, hy⟩ : ∃ y, nats (schedN l N k) ++ [(r : Int)] = y := ⟨_, rfl⟩
        have HYE := hid (show y = nats (schedN l N (k + 1)) by rw [← hy, ← hr, ← hX]; unfold nats schedN; rw [take_next HX.out, List.map_append, List.map_append]; rfl)
        have HY := hid hy
        have HYN := hid (show y.length = k + 1 by rw [HYE.out]; unfold nats; rw [List.length_map, schedN_len, HL.out]; omega)
        clear hx hy hX hr
        go_wp2_with (at_builtin; refine wpList_appY elmI gI_one rfl (.tmp 20) (.tmp 28) rfl (.slice A1 k c1) _ rfl (HO.out.alloc _) [(r : Int)] y HY rfl (Sl.fresh wr #[_] 3 1 1 rfl) (by go_num) (by rw [HYN.out]; simp only [maxLen]; omega) (by rw [HYN.out]; omega) ?_; intro A4 c4 w4 hc4 hc5 HN1 _ _)
        go_roundw
        case rel => exact ⟨k + 1, A4, c4, by omega, by omega, by go_num, by rw [HYN.out], hid (by have h1 := HN1.out; rw [HYN.out] at h1; rw [← HYE.out]; exact h1)⟩
        case measure => simp [intOf]; omega
      · obtain rfl : k = M := by omega
        have i2 : ¬ (k : Int) < (k : Int) := by omega
        go_wp2
        go_ret
        exact ⟨_, rfl, HO.out⟩
    · obtain rfl : k = n := by omega
      have i1 : ¬ (k : Int) < (k : Int) := by omega
      have E := hid (show schedN l N k = schedN l N M by unfold schedN; rw [List.take_of_length_le (by rw [HL.out]; exact Nat.le_refl _), List.take_of_length_le (by rw [HL.out]; omega)])
      go_wp2
      go_ret
      exact ⟨_, rfl, by rw [← E.out]; exact HO.out⟩
end Go.Proofs.YtabmkjokeeakdaaDoor
