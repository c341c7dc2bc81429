/-
  barographkeep.spent: how many steps of a schedule a call's thread has while the call is under way.
-/
import Derived.Test.YtabmkjokeeakdaaDoorRan
namespace Go.Proofs.YtabmkjokeeakdaaDoor
open Go.RowKit
set_option linter.unusedVariables false

/-- where a call's time ends -/
def stopOf (e : Option Nat) (n : Nat) : Nat := match e with | none => n | some k => min n (k + 1)
def spentOf (d : Dg) (l : List Nat) : Nat := ((l.drop d.b).take (stopOf d.e l.length - d.b)).count d.t
theorem spent_next {l : List Nat} {b j t x : Nat} (h : l[b + j]? = some x) : ((l.drop b).take (j + 1)).count t = ((l.drop b).take j).count t + (if x = t then 1 else 0) := by
  rw [List.take_add_one, List.getElem?_drop, h, List.count_append]
  by_cases e : x = t
  · subst e; simp
  · simp [e]
theorem stop_le (e : Option Nat) (n : Nat) : stopOf e n ≤ n := by
  cases e with
  | none => exact Nat.le_refl _
  | some k => exact Nat.min_le_left _ _
set_option maxHeartbeats 2000000 in
theorem spent_of (d : Dg) (v : SV) (As : Option Addr) (ns cs : Nat) (l : List Nat) (w : World) (hns : ns ≤ 6000) (hb : d.b ≤ ns) (he : ∀ e, d.e = some e → d.b ≤ e ∧ e < ns) (hl : Sl w 1 As ns (ints (l.map fun x : Nat => (x : Int)))) :
    Calls Tryd.prog 22 #[.agg #[.int .i64 (d.b : Int), .int .i64 (eI d.e), .int .i64 (d.t : Int), .int .i64 (d.c : Int), v.v], .slice As ns cs] w fun e w' => e = .returned (.int .i64 (spentOf d l : Int)) ∧ Below w.heap.size w w' := by
  have hlen : l.length = ns := by have := hl.leni; simpa using this
  have HL := hid hl
  have HN := hid hlen
  obtain ⟨b, eo, t, c, td⟩ := d
  have hb' : b ≤ ns := hb
  have HE := hid he
  obtain ⟨X, hX⟩ : ∃ X, w.heap.size = X := ⟨_, rfl⟩
  have BN := hid (bnew (bnil w) (.cells #[.int .i64 (b : Int), .int .i64 (eI eo), .int .i64 (t : Int), .int .i64 (c : Int), v.v] 41))
  have HXB := hid (blkN w 41 #[.int .i64 (b : Int), .int .i64 (eI eo), .int .i64 (t : Int), .int .i64 (c : Int), v.v] X hX)
  clear hl hlen hb he
  go_enter Tryd.func22, Tryd.ntmps22
  go_upto_region 1 with fail
  generalize World.alloc w _ = w2 at *
  have HSL := hid (HL.out.below BN.out)
  have x0 : w2.cell? ⟨X, 0, none⟩ = some (.int .i64 (b : Int)) := HXB.out.cell 0
  have x1 : w2.cell? ⟨X, 1, none⟩ = some (.int .i64 (eI eo)) := HXB.out.cell 1
  have x2 : w2.cell? ⟨X, 2, none⟩ = some (.int .i64 (t : Int)) := HXB.out.cell 2
  have ltX := HXB.out.lt
  have HX1 := hid x1
  clear x1 hX
  go_wp2_with fail
  go_loopw [5, 6] (fun n i wr => ∃ k q : Nat, b ≤ k ∧ k ≤ ns ∧ i = .int .i64 k ∧ n = .int .i64 q ∧ q ≤ k ∧ Hid (q = ((l.drop b).take (k - b)).count t) ∧ Hid (k ≤ stopOf eo ns ∨ k = b) ∧ Hid (Below w2.heap.size w2 wr)) (fun _ i _ => ns - (intOf i).toNat)
  case atStart => exact ⟨b, 0, Nat.le_refl _, hb', rfl, rfl, Nat.zero_le _, hid (by rw [Nat.sub_self, List.take_zero]; rfl), hid (.inr rfl), by first | exact hid (bnil _) | exact hid (bnil _).drew | exact hid (below_drewN (bnil _) _)⟩
  case round =>
    obtain ⟨k, q, hbk, hk, rfl, rfl, hqk, HQ, HK, BR⟩ := hrel
    have x0 := cell_below BR.out x0
    have x2 := cell_below BR.out x2
    have ltX := Nat.lt_of_lt_of_le ltX BR.out.size
    by_cases hlt : k < ns
    · have j1 : (k : Int) < (ns : Int) := by omega
      have HS2 := hid (HSL.out.below BR.out)
      obtain ⟨ad, x', rfl, hx', hcl⟩ := HS2.out.ati hlt
      rw [List.getElem?_map] at hx'
      obtain ⟨x, hx, rfl⟩ := Option.map_eq_some_iff.1 hx'
      have HX := hid hx
      clear hx hx'
      by_cases hxt : x = t
      · subst hxt
        cases eo with
        | none =>
          have x1 : wr.cell? ⟨X, 1, none⟩ = some (.int .i64 (-1)) := cell_below BR.out HX1.out
          go_wp2_with fail
          go_quiet (fail)
          go_wp2_with fail
          go_roundw
          · exact ⟨k + 1, q + 1, by omega, by omega, by first | rfl | simp, by first | rfl | simp, by omega, hid (by rw [show k + 1 - b = (k - b) + 1 by omega, spent_next (show l[b + (k - b)]? = some x by rw [show b + (k - b) = k by omega]; exact HX.out), ← HQ.out]; simp), hid (.inl (by show k + 1 ≤ ns; omega)), hid (below_drewN BR.out _)⟩
          · simp only [intOf]; omega
        | some e0 =>
          have x1 : wr.cell? ⟨X, 1, none⟩ = some (.int .i64 (e0 : Int)) := cell_below BR.out HX1.out
          have he0 := HE.out e0 rfl
          replace he0 : b ≤ e0 ∧ e0 < ns := he0
          have n1 : ¬ ((e0 : Int) = -1) := by omega
          by_cases hke : k ≤ e0
          · have n2 : (k : Int) ≤ (e0 : Int) := by omega
            go_wp2_with fail
            go_quiet (fail)
            go_wp2_with fail
            go_roundw
            · exact ⟨k + 1, q + 1, by omega, by omega, by first | rfl | simp, by first | rfl | simp, by omega, hid (by rw [show k + 1 - b = (k - b) + 1 by omega, spent_next (show l[b + (k - b)]? = some x by rw [show b + (k - b) = k by omega]; exact HX.out), ← HQ.out]; simp), hid (.inl (by show k + 1 ≤ min ns (e0 + 1); omega)), hid (below_drewN BR.out _)⟩
            · simp only [intOf]; omega
          · have n2 : ¬ (k : Int) ≤ (e0 : Int) := by omega
            have hst : stopOf (some e0) ns - b = k - b := by
              have h := HK.out
              have h2 : stopOf (some e0) ns = min ns (e0 + 1) := rfl
              omega
            go_wp2_with fail
            go_ret
            exact ⟨by (rw [show spentOf ⟨b, some e0, x, c, td⟩ l = q from by rw [HQ.out]; unfold spentOf; simp only [HN.out, hst]]); rfl, bgo BN.out BR.out⟩
      · have q1 : ¬ ((x : Int) = (t : Int)) := by omega
        have q2 : ((x : Int) == (t : Int)) = false := by simp; omega
        have q3 : decide ((x : Int) = (t : Int)) = false := by simp; omega
        cases eo with
        | none =>
          have x1 : wr.cell? ⟨X, 1, none⟩ = some (.int .i64 (-1)) := cell_below BR.out HX1.out
          go_wp2_with fail
          go_quiet (fail)
          go_wp2_with fail
          go_roundw
          · exact ⟨k + 1, q, by omega, by omega, by first | rfl | simp, by first | rfl | simp, by omega, hid (by rw [show k + 1 - b = (k - b) + 1 by omega, spent_next (show l[b + (k - b)]? = some x by rw [show b + (k - b) = k by omega]; exact HX.out), ← HQ.out]; rw [if_neg hxt]; rfl), hid (.inl (by show k + 1 ≤ ns; omega)), hid (below_drewN BR.out _)⟩
          · simp only [intOf]; omega
        | some e0 =>
          have x1 : wr.cell? ⟨X, 1, none⟩ = some (.int .i64 (e0 : Int)) := cell_below BR.out HX1.out
          have he0 := HE.out e0 rfl
          replace he0 : b ≤ e0 ∧ e0 < ns := he0
          have n1 : ¬ ((e0 : Int) = -1) := by omega
          by_cases hke : k ≤ e0
          · have n2 : (k : Int) ≤ (e0 : Int) := by omega
            go_wp2_with fail
            go_quiet (fail)
            go_wp2_with fail
            go_roundw
            · exact ⟨k + 1, q, by omega, by omega, by first | rfl | simp, by first | rfl | simp, by omega, hid (by rw [show k + 1 - b = (k - b) + 1 by omega, spent_next (show l[b + (k - b)]? = some x by rw [show b + (k - b) = k by omega]; exact HX.out), ← HQ.out]; rw [if_neg hxt]; rfl), hid (.inl (by show k + 1 ≤ min ns (e0 + 1); omega)), hid (below_drewN BR.out _)⟩
            · simp only [intOf]; omega
          · have n2 : ¬ (k : Int) ≤ (e0 : Int) := by omega
            have hst : stopOf (some e0) ns - b = k - b := by
              have h := HK.out
              have h2 : stopOf (some e0) ns = min ns (e0 + 1) := rfl
              omega
            go_wp2_with fail
            go_ret
            exact ⟨by (rw [show spentOf ⟨b, some e0, t, c, td⟩ l = q from by rw [HQ.out]; unfold spentOf; simp only [HN.out, hst]]); rfl, bgo BN.out BR.out⟩
    · obtain rfl : k = ns := by omega
      have j1 : ¬ (k : Int) < (k : Int) := by omega
      have hst : stopOf eo k - b = k - b := by
        have h := HK.out
        have h2 := stop_le eo k
        omega
      go_wp2_with fail
      go_ret
      exact ⟨by (rw [show spentOf ⟨b, eo, t, c, td⟩ l = q from by rw [HQ.out]; unfold spentOf; simp only [HN.out, hst]]); rfl, bgo BN.out BR.out⟩
end Go.Proofs.YtabmkjokeeakdaaDoor
