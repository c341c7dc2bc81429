/-
  RankTurned: plain laws.
-/
import Derived.Test.YtfdendcgmaediaaRankGrows
namespace Go.Proofs.Ytfdendcgmaediaa
open Go.RowKit
set_option linter.unusedVariables false

theorem pair_perm_eq : ∀ (a b : List Int), a.Pairwise (fun x y => x ≤ y) → b.Pairwise (fun x y => x ≤ y) → a.Perm b → a = b
  | [], b, _, _, h => (List.nil_perm.1 h).symm
  | x :: a, [], _, _, h => by have := h.length_eq; simp at this
  | x :: a, y :: b, ha, hb, h => by
    have h1 := List.pairwise_cons.1 ha
    have h2 := List.pairwise_cons.1 hb
    have hxy : x = y := by
      have hx : x ∈ y :: b := h.mem_iff.1 List.mem_cons_self
      have hy : y ∈ x :: a := h.mem_iff.2 List.mem_cons_self
      rcases List.mem_cons.1 hx with e | hx
      · exact e
      · rcases List.mem_cons.1 hy with e | hy
        · exact e.symm
        · have := h1.1 y hy; have := h2.1 x hx; omega
    subst hxy
    rw [pair_perm_eq a b h1.2 h2.2 ((List.perm_cons x).1 h)]
theorem srt_of_perm {l m : List Int} (h : l.Perm m) : srt l = srt m := pair_perm_eq _ _ (srt_pair l) (srt_pair m) ((srt_perm l).trans (h.trans (srt_perm m).symm))
/-- the order does not matter -/
theorem rk_perm {l m : List Int} (h : l.Perm m) (o p : Nat) : rk l o p = rk m o p := by
  unfold rk; rw [srt_of_perm h, h.length_eq]
theorem srt_add (l : List Int) (d : Int) : srt (l.map (· + d)) = (srt l).map (· + d) := by
  refine pair_perm_eq _ _ (srt_pair _) ?_ ((srt_perm _).trans ((srt_perm l).symm.map _))
  rw [List.pairwise_map]
  exact (srt_pair l).imp fun h => by omega
/-- all more by d -/
theorem rk_add {l : List Int} {o p : Nat} (h1 : 1 ≤ l.length) (hp : p ≤ o) (d : Int) : rk (l.map (· + d)) o p = rk l o p + d := by
  have hat := rk_at (o := o) (p := p) h1 hp
  unfold rk
  rw [srt_add, List.length_map, List.getD_eq_getElem?_getD, List.getElem?_map, hat]
  rfl
/-- lower terms -/
theorem rkI_thrice (n o p : Nat) : rkI n (3 * o) (3 * p) = rkI n o p := by
  unfold rkI
  refine List.countP_congr fun k _ => ?_
  simp only [decide_eq_true_eq]
  rw [show (k + 1) * (3 * o) = 3 * ((k + 1) * o) by rw [Nat.mul_left_comm], show 3 * p * n = 3 * (p * n) by rw [Nat.mul_assoc]]
  omega
theorem rk_thrice (l : List Int) (o p : Nat) : rk l (3 * o) (3 * p) = rk l o p := by unfold rk; rw [rkI_thrice]
/-- each twice -/
def dbl (l : List Int) : List Int := l.flatMap fun x => [x, x]
theorem dbl_len : ∀ l : List Int, (dbl l).length = 2 * l.length
  | [] => rfl
  | x :: l => by
    have := dbl_len l
    unfold dbl at this ⊢
    rw [List.flatMap_cons, List.length_append, this]; simp; omega
theorem dbl_at : ∀ (l : List Int) (i : Nat), (dbl l)[i]? = l[i / 2]?
  | [], i => by simp [dbl]
  | x :: l, 0 => rfl
  | x :: l, 1 => rfl
  | x :: l, i + 2 => by
    have h := dbl_at l i
    have e : dbl (x :: l) = x :: x :: dbl l := rfl
    rw [e, List.getElem?_cons_succ, List.getElem?_cons_succ, h, show (i + 2) / 2 = i / 2 + 1 by omega, List.getElem?_cons_succ]
theorem dbl_perm {l m : List Int} (h : l.Perm m) : (dbl l).Perm (dbl m) := h.flatMap_right _
theorem srt_dbl (l : List Int) : srt (dbl l) = dbl (srt l) := by
  refine pair_perm_eq _ _ (srt_pair _) ?_ ((srt_perm _).trans (dbl_perm (srt_perm l).symm))
  rw [List.pairwise_iff_getElem]
  intro i j hi hj hij
  have h1 := List.getElem?_eq_getElem hi
  have h2 := List.getElem?_eq_getElem hj
  rw [dbl_at] at h1 h2
  exact pair_at (srt_pair l) (show i / 2 ≤ j / 2 by omega) h1 h2
theorem rkI_dbl {n o p : Nat} (hn : 1 ≤ n) (hp : p ≤ o) : rkI (2 * n) o p / 2 = rkI n o p := by
  obtain ⟨a1, a2, a3⟩ := rankI_of n o p hp
  obtain ⟨b1, b2, b3⟩ := rankI_of (2 * n) o p hp
  have ha := rkI_lt (o := o) (p := p) hn hp
  have hb := rkI_lt (n := 2 * n) (o := o) (p := p) (by omega) hp
  have e2 : p * (2 * n) = 2 * (p * n) := Nat.mul_left_comm p 2 n
  rcases Nat.lt_trichotomy (rkI (2 * n) o p / 2) (rkI n o p) with h | h | h
  · -- the place in the list of twice as many is too low
    have h1 := a2 (rkI (2 * n) o p / 2) h
    have h2 := b3 (2 * (rkI (2 * n) o p / 2) + 1) (show rkI (2 * n) o p ≤ _ by omega) (by omega)
    rw [e2, show (2 * (rkI (2 * n) o p / 2) + 1 + 1) * o = 2 * ((rkI (2 * n) o p / 2 + 1) * o) by rw [show 2 * (rkI (2 * n) o p / 2) + 1 + 1 = 2 * (rkI (2 * n) o p / 2 + 1) by omega, Nat.mul_assoc]] at h2
    omega
  · exact h
  · have h1 := a3 (rkI n o p) (Nat.le_refl _) ha
    have h2 := b2 (2 * rkI n o p + 1) (show _ < rkI (2 * n) o p by omega)
    rw [e2, show (2 * rkI n o p + 1 + 1) * o = 2 * ((rkI n o p + 1) * o) by rw [show 2 * rkI n o p + 1 + 1 = 2 * (rkI n o p + 1) by omega, Nat.mul_assoc]] at h2
    omega
theorem rk_dbl {l : List Int} {o p : Nat} (h1 : 1 ≤ l.length) (hp : p ≤ o) : rk (dbl l) o p = rk l o p := by
  unfold rk
  rw [srt_dbl, dbl_len, List.getD_eq_getElem?_getD, List.getD_eq_getElem?_getD, dbl_at, rkI_dbl h1 hp]
/-- turned round by t, and told from the end -/
def trn (vs : List Int) (t : Nat) : Nat → List Int
  | 0 => []
  | k + 1 => vs.getD ((k + t) % vs.length) 0 :: trn vs t k
theorem trn_eq (vs : List Int) (t : Nat) : ∀ k, trn vs t k = ((List.range k).map fun i => vs.getD ((i + t) % vs.length) 0).reverse
  | 0 => rfl
  | k + 1 => by rw [trn, trn_eq vs t k, List.range_succ, List.map_append, List.reverse_append]; rfl
theorem trn_perm (vs : List Int) {t : Nat} (ht : t < vs.length) : (trn vs t vs.length).Perm vs := by
  rw [trn_eq]
  refine (List.reverse_perm _).trans ?_
  have e : ((List.range vs.length).map fun i => vs.getD ((i + t) % vs.length) 0) = vs.drop t ++ vs.take t := by
    refine List.ext_getElem? fun i => ?_
    rw [List.getElem?_map, List.getElem?_append, List.length_drop]
    by_cases hi : i < vs.length
    · rw [List.getElem?_range hi]
      by_cases h2 : i < vs.length - t
      · rw [if_pos h2, List.getElem?_drop, Option.map_some, Nat.mod_eq_of_lt (by omega), List.getD_eq_getElem?_getD, List.getElem?_eq_getElem (by omega : i + t < vs.length), Nat.add_comm t i, List.getElem?_eq_getElem (by omega : i + t < vs.length)]; rfl
      · have e3 : (i + t) % vs.length = i - (vs.length - t) := by
          rw [Nat.mod_eq_sub_mod (by omega), Nat.mod_eq_of_lt (by omega)]; omega
        rw [if_neg h2, Option.map_some, e3, List.getElem?_take, if_pos (by omega), List.getD_eq_getElem?_getD, List.getElem?_eq_getElem (by omega : i - (vs.length - t) < vs.length)]; rfl
    · rw [List.getElem?_eq_none (by simpa using hi), if_neg (by omega), List.getElem?_take, if_neg (by omega)]; rfl
  rw [e]
  exact List.perm_append_comm.trans (by rw [List.take_append_drop])
end Go.Proofs.Ytfdendcgmaediaa
