/-
  barographkeep.leaves: its walk.
-/
import Derived.Test.YtiinnkdhccgelaaDoorDsAt
namespace Go.Proofs.YtiinnkdhccgelaaDoor
open Go.RowKit
set_option linter.unusedVariables false

/-- where the call two behind a call begins -/
def leavesOf : List Dg → Dg → Nat
  | [], _ => 1073741824
  | x :: ds, d => if x.t = d.t ∧ x.c = d.c + 2 then x.b else leavesOf ds d
theorem leaves_skip (d : Dg) : ∀ (ds : List Dg) (k : Nat), (∀ j x, j < k → ds[j]? = some x → ¬ (x.t = d.t ∧ x.c = d.c + 2)) → leavesOf ds d = leavesOf (ds.drop k) d
  | _, 0, _ => rfl
  | [], k + 1, _ => by simp
  | y :: ds, k + 1, h => by
    have h0 := h 0 y (Nat.succ_pos k) rfl
    rw [leavesOf, if_neg h0, List.drop_succ_cons]
    exact leaves_skip d ds k fun j x hj hx => h (j + 1) x (by omega) (by rw [List.getElem?_cons_succ]; exact hx)
theorem leaves_hit {d : Dg} {ds : List Dg} {k : Nat} {x : Dg} (hn : ∀ j x, j < k → ds[j]? = some x → ¬ (x.t = d.t ∧ x.c = d.c + 2)) (hx : ds[k]? = some x) (h : x.t = d.t ∧ x.c = d.c + 2) : leavesOf ds d = x.b := by
  rw [leaves_skip d ds k hn]
  have hl := (List.getElem?_eq_some_iff.1 hx).1
  have he := (List.getElem?_eq_some_iff.1 hx).2
  rw [List.drop_eq_getElem_cons hl, he, leavesOf, if_pos h]
set_option maxHeartbeats 2000000 in
theorem leaves_of (B : Nat) (A : Option Addr) (n c : Nat) (rs : List (Dg × SV)) (d : Dg) (tv : Value) (w : World) (hn : n ≤ 9223372036854775807) (hc : d.c ≤ 1000) (h : DsAt B w (.slice A n c) n rs) :
    Calls Tryd.prog 37 #[.slice A n c, .agg #[.int .i64 (d.b : Int), .int .i64 (eI d.e), .int .i64 (d.t : Int), .int .i64 (d.c : Int), tv]] w fun e w' => e = .returned (.int .i64 (leavesOf (rs.map (·.1)) d : Int)) ∧ Below w.heap.size w w' := by
  have H := hid h
  clear h
  obtain ⟨X, hX⟩ : ∃ X, w.heap.size = X := ⟨_, rfl⟩
  have BN := hid (bnew (bnil w) (.cells #[.int .i64 (d.b : Int), .int .i64 (eI d.e), .int .i64 (d.t : Int), .int .i64 (d.c : Int), tv] 46))
  have HXB := hid (blkN w 46 #[.int .i64 (d.b : Int), .int .i64 (eI d.e), .int .i64 (d.t : Int), .int .i64 (d.c : Int), tv] X hX)
  have HXX := hid hX
  clear hX
  go_enter Tryd.func37, Tryd.ntmps37
  go_wp2_with fail
  have hX := HXX.out
  rw [hX]
  clear hX
  generalize World.alloc w (.cells #[.int .i64 (d.b : Int), .int .i64 (eI d.e), .int .i64 (d.t : Int), .int .i64 (d.c : Int), tv] 46) = w2 at *
  have H2 := hid (H.out.below BN.out)
  go_loopw [5] (fun i wr => ∃ k : Nat, k ≤ n ∧ i = .int .i64 k ∧ Hid (∀ j x, j < k → (rs.map (·.1))[j]? = some x → ¬ (x.t = d.t ∧ x.c = d.c + 2)) ∧ Hid (Below w2.heap.size w2 wr)) (fun i _ => n - (intOf i).toNat)
  case atStart => exact ⟨0, Nat.zero_le _, rfl, hid (fun j x h => absurd h (by omega)), hid (bnil _)⟩
  case round =>
    obtain ⟨k, hk, rfl, HN, BR⟩ := hrel
    by_cases hlt : k < n
    · have j1 : (k : Int) < (n : Int) := by omega
      obtain ⟨b9, d2, At, ct, rfl, hd, lt9, u0, u1, u2, u3, u4, ut⟩ := (H2.out.below BR.out).at_ hlt
      have HDk := hid hd
      have XB := hid (HXB.out.below' BR.out)
      have y2 : wr.cell? ⟨X, 2, none⟩ = some (.int .i64 (d.t : Int)) := XB.out.cell 2
      have y3 : wr.cell? ⟨X, 3, none⟩ = some (.int .i64 (d.c : Int)) := XB.out.cell 3
      clear hd ut
      have hnext : ¬ (d2.t = d.t ∧ d2.c = d.c + 2) → Hid (∀ j x, j < k + 1 → (rs.map (·.1))[j]? = some x → ¬ (x.t = d.t ∧ x.c = d.c + 2)) := fun h => hid fun j x hj hx => by
        by_cases e : j = k
        · subst e
          have := HDk.out.symm.trans hx
          injection this with this
          subst this
          exact h
        · exact HN.out j x (by omega) hx
      have HNX := hid hnext
      clear hnext
      by_cases ht : d2.t = d.t
      · have e1 : ((d2.t : Int) == (d.t : Int)) = true := beqT (by omega)
        by_cases hc2 : d2.c = d.c + 2
        · have e2 : ((d2.c : Int) == (d.c : Int) + 2) = true := beqT (by omega)
          have HR := hid (leaves_hit HN.out HDk.out ⟨ht, hc2⟩)
          go_wp2_with fail
          go_quiet (fail)
          go_wp2_with fail
          go_ret
          exact ⟨by rw [HR.out]; rfl, bgo BN.out (below_drewN BR.out nq)⟩
        · have e2 : ((d2.c : Int) == (d.c : Int) + 2) = false := beqF (by omega)
          have HN1 := HNX.out (fun h => hc2 h.2)
          go_wp2_with fail
          go_quiet (fail)
          go_wp2_with fail
          go_roundw
          case rel => exact ⟨k + 1, by omega, by go_num, HN1, hid (below_drewN BR.out nq)⟩
          case measure => simp [intOf]; omega
      · have e1 : ((d2.t : Int) == (d.t : Int)) = false := beqF (by omega)
        have HN1 := HNX.out (fun h => ht h.1)
        go_wp2_with fail
        go_quiet (fail)
        go_wp2_with fail
        go_roundw
        case rel => exact ⟨k + 1, by omega, by go_num, HN1, hid (below_drewN BR.out nq)⟩
        case measure => simp [intOf]; omega
    · obtain rfl : n = k := by omega
      have j1 : ¬ (n : Int) < (n : Int) := by omega
      have HR := hid (show leavesOf (rs.map (·.1)) d = 1073741824 by
        rw [leaves_skip d _ n HN.out, List.drop_eq_nil_of_le (by rw [List.length_map, H2.out.len]; exact Nat.le_refl _)]; rfl)
      go_wp2_with fail
      go_ret
      exact ⟨by rw [HR.out]; rfl, bgo BN.out BR.out⟩
end Go.Proofs.YtiinnkdhccgelaaDoor
