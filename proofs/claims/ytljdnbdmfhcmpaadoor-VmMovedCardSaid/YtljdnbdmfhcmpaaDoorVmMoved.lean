/-
  Moved, VmMoved: their walks.
-/
import Derived.Test.YtljdnbdmfhcmpaaDoorVmWords
namespace Go.Proofs.YtljdnbdmfhcmpaaDoor
open Go.RowKit
set_option linter.unusedVariables false

theorem mv_sh (n : Nat) (k : Int) (o : Op5) (h : OpSh n o) : OpSh n (mv k o) := by
  unfold mv
  split
  · rename_i hq
    obtain ⟨h1, h2, h3, h4, h5⟩ := h
    exact ⟨h1, h2, h3, .inr (.inr (by dsimp only; omega)), h5⟩
  · exact h
theorem vres_move (code : List Op5) (hc : CodeD code) (args ws f : List Int) (ha : args.length ≤ 4) (hw : ws.length = 6) (hf : f.length < 100) (L : Nat) :
    vres (code.map (mv f.length)) args (f ++ ws) L = ((vres code args ws L).1, f ++ (vres code args ws L).2) ∧ vcount (code.map (mv f.length)) L (vbegin (code.map (mv f.length)).length args, f ++ ws) = vcount code L (vbegin code.length args, ws) := by
  have h5 := vbegin_five code.length args ha
  have := vrun_move code hc.inn f L (vbegin code.length args) ws h5 (fun o ho hq => by obtain ⟨b5, c0, c6⟩ := hc.word o ho hq; exact ⟨b5, c0, by rw [hw]; omega, by omega⟩)
  unfold vres
  rw [List.length_map]
  exact this
set_option maxHeartbeats 2000000 in
set_option maxRecDepth 100000 in
theorem code_moved (A : Option Addr) (n c : Nat) (code : List Op5) (K : Nat) (w : World) (hn : n ≤ 40) (hK : K < 100) (hC : CodeAt w A n code) (hD : CodeD code) :
    Calls Tryd.prog 17 #[.slice A n c, .int .i64 (K : Int)] w fun e w' => ∃ v, e = .returned v ∧ Ow w w' 35 5 gO v (code.map (mv K)) := by
  have HC := hid hC; have HD := hid hD
  have HL := hid (show code.length = n by have := hC.sl.1; rw [flatMap_len gO 5 (fun _ => rfl)] at this; omega)
  clear hC hD
  go_enter Tryd.func17, Tryd.ntmps17
  go_wp2
  go_loopw [5, 6] (fun v i wr => ∃ (k : Nat) (A1 : Option Addr) (c1 : Nat), k ≤ n ∧ i = .int .i64 k ∧ v = .slice A1 k c1 ∧ Hid (Ow w wr 35 5 gO (.slice A1 k c1) ((code.take k).map (mv K)))) (fun _ i _ => n - (intOf i).toNat)
  case atStart => exact ⟨0, none, 0, Nat.zero_le _, rfl, rfl, hid (Ow.nil _ _ _ _)⟩
  case round =>
    obtain ⟨k, A1, c1, hk, rfl, rfl, HO⟩ := hrel
    by_cases hlt : k < n
    · have i1 : (k : Int) < (n : Int) := by omega
      obtain ⟨ad, o, rfl, hx, d1, d2, d3, d4, d5⟩ := (HC.out.below HO.out.below).sl.opAt hlt
      have hw := HD.out.word o (List.mem_of_getElem? hx)
      have hkk := (HD.out.opin o (List.mem_of_getElem? hx)).1
      obtain ⟨ok, oa, ob, oc, od⟩ := o
      simp only at d1 d2 d3 d4 d5 hw hkk
      have HY := hid (show (code.take (k + 1)).map (mv K) = (code.take k).map (mv K) ++ [mv K ⟨ok, oa, ob, oc, od⟩] by rw [take_next hx, List.map_append]; rfl)
      have HYL := hid (show ((code.take k).map (mv K)).length = k by rw [List.length_map, List.length_take, HL.out]; omega)
      clear hx
      generalize hlk : (code.take k).map (mv K) = lk at *
      clear hlk
      obtain ⟨y, hy⟩ : ∃ y, lk ++ [mv K ⟨ok, oa, ob, oc, od⟩] = y := ⟨_, rfl⟩
      have hyl : y.length = k + 1 := by rw [← hy, List.length_append, HYL.out]; rfl
      rw [hy] at HY
      have HYN := hid hyl
      by_cases hq : ok = 13 ∨ ok = 14 ∨ ok = 15
      · obtain ⟨hb5, c0, c6⟩ := hw hq
        clear hb5
        have E : mv K ⟨ok, oa, ob, oc, od⟩ = ⟨ok, oa, ob, oc + K, od⟩ := by unfold mv; rw [if_pos hq]
        rw [E] at hy
        have HYY := hid hy
        clear hy hyl hw E hkk
        rcases hq with rfl | rfl | rfl
        all_goals
          go_wp2_with (at_builtin; refine wpList_appY elmO gO_one rfl (.tmp 36) (.tmp 38) rfl (.slice A1 k c1) lk rfl ((HO.out.alloc _).alloc _) [⟨_, oa, ob, oc + K, od⟩] y HYY rfl (Sl.fresh' _ #[_, _, _, _, _] 35 5 1 _ (by simp) rfl) rfl (by rw [HYN.out]; simp only [maxLen]; omega) (by rw [HYN.out]; omega) ?_; intro A4 c4 w4 hc4 hc5 HN1 _ _)
          go_roundw
          case rel => exact ⟨k + 1, A4, c4, by omega, by go_num, by rw [HYN.out], hid (by have hn1 := HN1.out; rw [HYN.out] at hn1; rw [HY.out]; exact hn1)⟩
          case measure => simp [intOf]; omega
      · have E : mv K ⟨ok, oa, ob, oc, od⟩ = ⟨ok, oa, ob, oc, od⟩ := by unfold mv; rw [if_neg hq]
        rw [E] at hy
        have HYY := hid hy
        clear hy hyl hw E
        have n1 : (ok == 13) = false := by simp; omega
        have n2 : (ok == 14) = false := by simp; omega
        have n3 : (ok == 15) = false := by simp; omega
        clear hq hkk
        go_wp2_with (at_builtin; refine wpList_appY elmO gO_one rfl (.tmp 36) (.tmp 38) rfl (.slice A1 k c1) lk rfl ((HO.out.alloc _).alloc _) [⟨ok, oa, ob, oc, od⟩] y HYY rfl (Sl.fresh' _ #[_, _, _, _, _] 35 5 1 _ (by simp) rfl) rfl (by rw [HYN.out]; simp only [maxLen]; omega) (by rw [HYN.out]; omega) ?_; intro A4 c4 w4 hc4 hc5 HN1 _ _)
        go_roundw
        case rel => exact ⟨k + 1, A4, c4, by omega, by go_num, by rw [HYN.out], hid (by have hn1 := HN1.out; rw [HYN.out] at hn1; rw [HY.out]; exact hn1)⟩
        case measure => simp [intOf]; omega
    · obtain rfl : k = n := by omega
      have E := hid (show (code.take k).map (mv K) = code.map (mv K) by rw [List.take_of_length_le (by rw [HL.out]; exact Nat.le_refl _)])
      go_wp2
      go_ret
      exact ⟨_, rfl, by rw [← E.out]; exact HO.out⟩
/-- 0, 1, 2 .. -/
def ups (k n : Nat) : List Int := (List.range k).map (fun i : Nat => (i : Int)) ++ List.replicate (n - k) 0
theorem ups_zero (n : Nat) : ups 0 n = List.replicate n 0 := by unfold ups; simp
theorem ups_len (k n : Nat) (h : k ≤ n) : (ups k n).length = n := by unfold ups; simp; omega
theorem ups_step (k n : Nat) (h : k < n) : ups (k + 1) n = (ups k n).set k (k : Int) := by
  unfold ups
  rw [List.range_succ, List.map_append, show n - k = (n - (k + 1)) + 1 by omega, List.replicate_succ, List.set_append_right _ _ (by simp)]
  simp
theorem made_ow (w : World) (n : Nat) (h : n ≤ 100) : Ow w (w.alloc (.cells (madeCells #[.int .i64 0] n) 3)) 3 1 gI (.slice (some ⟨w.heap.size, 0, none⟩) n n) (List.replicate n 0) := by
  have hcells : (madeCells #[.int .i64 0] n).toList = (List.replicate n (0 : Int)).flatMap gI := by
    rw [Go.toList_madeCells_one]
    clear h
    induction n with
    | zero => rfl
    | succ n ih => rw [List.replicate_succ, List.replicate_succ, List.flatMap_cons, ← ih]; rfl
  have hcl : (List.replicate n (0 : Int)).length = n := by simp
  refine ⟨⟨by rw [flatMap_len _ 1 (fun _ => rfl), Nat.mul_one], .inr ⟨w.heap.size, n, madeCells #[.int .i64 0] n, by rw [hcl], Nat.le_refl _, Blk.new w _ _, by rw [hcl]; exact Nat.le_refl _, by unfold maxLen; omega, by simp [size_madeCells], ?_⟩⟩, bnew (bnil w) _⟩
  rw [hcl, Nat.mul_one, hcells, List.take_of_length_le (by rw [flatMap_len _ 1 (fun _ => rfl)]; simp)]
end Go.Proofs.YtljdnbdmfhcmpaaDoor
