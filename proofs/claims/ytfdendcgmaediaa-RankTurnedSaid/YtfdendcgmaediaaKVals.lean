/-
  barographkeep.Values: its walk.
-/
import Derived.Test.YtfdendcgmaediaaNum
namespace Go.Proofs.Ytfdendcgmaediaa
open Go.RowKit
set_option linter.unusedVariables false
def valsOf (l : List Int) (m : Nat) : List Int := 3 :: (l.take m).map fun x => (pk x 50 : Int) - 20
theorem valsOf_bd (l : List Int) (m : Nat) : ∀ v ∈ valsOf l m, -20 ≤ v ∧ v ≤ 29 := by
  intro v hv
  rcases List.mem_cons.1 hv with rfl | h
  · decide
  · obtain ⟨x, _, rfl⟩ := List.mem_map.1 h
    have := pk_lt x 50 (by decide); omega
theorem valsOf_len (l : List Int) (m : Nat) : (valsOf l m).length = min m l.length + 1 := by unfold valsOf; rw [List.length_cons, List.length_map, List.length_take]
theorem valsOf_step (l : List Int) (k : Nat) (x : Int) (h : l[k]? = some x) : valsOf l (k + 1) = valsOf l k ++ [(pk x 50 : Int) - 20] := by
  unfold valsOf; rw [take_next h, List.map_append]; rfl
theorem values_of (A : Option Addr) (n c : Nat) (l : List Int) (m : Nat) (w : World) (hn : n ≤ c) (hc : c ≤ maxLen) (h : Sl w 1 A n (ints l)) (hl : ∀ x ∈ l, -9223372036854775808 ≤ x ∧ x ≤ 9223372036854775807) (hm : m ≤ 100) :
    Calls Try.prog 21 #[.slice A n c, .int .i64 (m : Int)] w fun e w' => ∃ v, e = .returned v ∧ Ow w w' 3 1 gI v (valsOf l m) := by
  have H := hid h; have HI := hid hl; clear h hl
  have HL := hid H.out.leni
  unfold maxLen at hc
  have H0 := hid (⟨⟨rfl, .inr ⟨w.heap.size, 1, #[.int .i64 3], rfl, Nat.le_refl _, Blk.new w _ _, Nat.le_refl _, by simp [maxLen], rfl, rfl⟩⟩, bnew (bnil w) _⟩ : Ow w (w.alloc (.cells #[.int .i64 3] 3)) 3 1 gI (.slice (some ⟨w.heap.size, 0, none⟩) 1 1) [3])
  go_enter Try.func21, Try.ntmps21
  go_wp2
  go_loopw [5, 6] (fun o i wr => ∃ k : Nat, k ≤ n ∧ k ≤ m ∧ i = .int .i64 k ∧ Ow w wr 3 1 gI o (valsOf l k)) (fun _ i _ => n - (intOf i).toNat)
  case atStart => exact ⟨0, Nat.zero_le _, Nat.zero_le _, rfl, H0.out⟩
  case round =>
    obtain ⟨k, hk, hkm, rfl, ho⟩ := hrel
    have HO := hid ho; clear ho
    by_cases hlt : k < n ∧ k < m
    · obtain ⟨hlt1, hlt2⟩ := hlt
      obtain ⟨ad, x, rfl, hx, c0⟩ := (H.out.below HO.out.below).ati hlt1
      obtain ⟨x0, x1⟩ := HI.out x (List.mem_of_getElem? hx)
      have HS := hid (valsOf_step l k x hx)
      have hyl0 := valsOf_len l k
      have hpk := pk_lt x 50 (by decide)
      obtain ⟨p, hp⟩ : ∃ p, pk x 50 = p := ⟨_, rfl⟩
      rw [hp] at HS hpk
      have HP := hid hp
      obtain ⟨y0, hy0⟩ : ∃ y, valsOf l k = y := ⟨_, rfl⟩
      rw [hy0] at HS hyl0 HO
      obtain ⟨y, hy⟩ : ∃ y, y0 ++ [(p : Int) - 20] = y := ⟨_, rfl⟩
      have hyl : y.length ≤ 102 := by rw [← hy, List.length_append, hyl0]; simp; omega
      have HY := hid hy
      rw [hy] at HS
      clear hx hy hy0 hp hyl0
      have i1 : (k : Int) < (n : Int) := by omega
      have i2 : (k : Int) < (m : Int) := by omega
      go_wp2_with fail
      refine (picked x 50 wr (by omega) x0 x1 (by omega)).mono ?_
      rintro e wr ⟨rfl, rfl⟩
      rw [HP.out]
      go_wp2_with (at_builtin; refine wpList_appY elmI gI_one rfl (.tmp 19) (.tmp 26) rfl u5 y0 rfl (HO.out.alloc _) [(p : Int) - 20] y HY rfl (Sl.fresh wr #[.int .i64 ((p : Int) - 20)] 3 1 1 rfl) rfl (by simp only [maxLen]; omega) (by omega) ?_; intro A4 c4 w4 hc4 hc5 HN1 _ _)
      go_roundw
      case rel => exact ⟨k + 1, by omega, by omega, by go_num, by rw [HS.out]; exact HN1.out⟩
      case measure => simp [intOf]; omega
    · have hend : k = n ∨ (k < n ∧ k = m) := by omega
      have E := hid (show valsOf l k = valsOf l m by
        rcases hend with h | h
        · unfold valsOf; rw [List.take_of_length_le (by rw [HL.out]; omega), List.take_of_length_le (by rw [HL.out]; omega)]
        · rw [h.2])
      rw [E.out] at HO
      rcases hend with rfl | ⟨h1, rfl⟩
      · have i1 : ¬ (k : Int) < (k : Int) := by omega
        go_wp2
        go_ret
        exact ⟨_, rfl, HO.out⟩
      · have i1 : (k : Int) < (n : Int) := by omega
        have i2 : ¬ (k : Int) < (k : Int) := by omega
        go_wp2
        go_ret
        exact ⟨_, rfl, HO.out⟩
end Go.Proofs.Ytfdendcgmaediaa
