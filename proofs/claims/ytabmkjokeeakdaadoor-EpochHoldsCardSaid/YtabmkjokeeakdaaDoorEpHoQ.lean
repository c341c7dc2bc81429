/-
  EpochHolds: 'steps', phase after phase.
-/
import Derived.Test.YtabmkjokeeakdaaDoorEpHoS
namespace Go.Proofs.YtabmkjokeeakdaaDoor
open Go.RowKit
set_option linter.unusedVariables false

theorem fold_len : ∀ (u : List Ev) (ds : List Dg), ds.length ≤ (u.foldl dstep ds).length
  | [], ds => Nat.le_refl _
  | e :: u, ds => Nat.le_trans (by unfold dstep; split <;> simp) (fold_len u (dstep ds e))
theorem pre_len (m : Mach) (a b : List Nat) : (doings (play m a).evs).length ≤ (doings (play m (a ++ b)).evs).length := by
  obtain ⟨u, hu, -⟩ := play_parts m (a ++ b) a.length (by simp)
  rw [List.take_left] at hu
  rw [hu]
  unfold doings
  rw [List.foldl_append]
  exact fold_len u _
theorem Phs.pre {m : Mach} {ph : List (Nat × Nat)} {l l' : List Nat} (h : Phs m ph l l') : ∃ b, l' = l ++ b := by
  induction h with
  | nil l => exact ⟨[], by simp⟩
  | cons K h hr ih =>
    obtain ⟨b, hb⟩ := ih
    exact ⟨_, by rw [hb, List.append_assoc]⟩
/-- what is known of the run to the end -/
structure HE (m : Mach) (lE : List Nat) : Prop where
  len : lE.length ≤ 3000
  few : (doings (play m lE).evs).length ≤ 1000
  err : NoErr (play m lE).evs
/-- the schedule so far, and what is still to come -/
def HQ (m : Mach) (W1 w : World) (S : Nat) (lE : List Nat) (ph : List (Nat × Nat)) : Prop :=
  ∃ (As : Option Addr) (cS : Nat) (l : List Nat), HS W1 w S As cS l ∧ Phs m ph l lE ∧ ∀ x ∈ l, x < 4
theorem HQ.below {m : Mach} {W1 w : World} {S : Nat} {lE : List Nat} {ph : List (Nat × Nat)} (h : HQ m W1 w S lE ph) : Below W1.heap.size W1 w := by
  obtain ⟨_, _, _, h, _⟩ := h; exact h.below
theorem steps_q (m : Mach) (nw t e X S Cb T cW : Nat) (AW : Option Addr) (lE : List Nat) (ph : List (Nat × Nat)) (W1 w : World) (hnw : nw ≤ 200) (he : e ≤ 1000) (ht : t < 4) (hx : Blk W1 X 29 #[.slice AW nw cW, .slice (some ⟨Cb, 0, none⟩) 4 4, .slice (some ⟨T, 0, none⟩) 4 4])
    (hm : MachAt W1 (some ⟨Cb, 0, none⟩) 4 (some ⟨T, 0, none⟩) 4 m) (hw : Sl W1 1 AW nw (ints m.words)) (hT : STab W1) (hE : HE m lE) (hq : HQ m W1 w S lE ((t, e) :: ph)) :
    Calls Tryd.prog 18 #[.int .i64 (t : Int), .int .i64 (e : Int), .pointer (some ⟨X, 0, none⟩), .pointer (some ⟨S, 0, none⟩)] w fun e' w' => e' = .returned (.bool true) ∧ HQ m W1 w' S lE ph := by
  obtain ⟨As, cS, l, hs, hp, hlt⟩ := hq
  cases hp with
  | cons K h1 hr =>
    obtain ⟨b, hb⟩ := hr.pre
    refine (steps_of m nw t e K X S Cb T cW AW As cS l W1 w hnw he ht hx hm hw hT hs h1 ?_ hlt ?_ ?_).mono ?_
    · have := hE.len; rw [hb, List.length_append, List.length_append, List.length_replicate] at this; omega
    · refine noErr_pre (b := b) ?_
      rw [← hb]; exact hE.err
    · intro k hk
      refine Nat.le_trans ?_ hE.few
      have e : lE = (l ++ List.replicate k t) ++ (List.replicate (K - k) t ++ b) := by
        have e0 : List.replicate K t = List.replicate k t ++ List.replicate (K - k) t := by rw [List.replicate_append_replicate, Nat.add_sub_cancel' hk]
        rw [hb, e0]
        simp only [List.append_assoc]
      rw [e]
      exact pre_len m _ _
    · rintro e' w' ⟨rfl, A', c', h2⟩
      exact ⟨rfl, A', c', _, h2, hr, fun x hx => by
        rcases List.mem_append.1 hx with hx | hx
        · exact hlt x hx
        · rw [List.eq_of_mem_replicate hx]; exact ht⟩
end Go.Proofs.YtabmkjokeeakdaaDoor
