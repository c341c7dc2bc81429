/-
  quant.Counts, Join, slices.Clone of numbers, CountsAll: their walks.
-/
import Derived.Test.YtifpnfhmemdljaaQuant2
import Derived.Test.YtifpnfhmemdljaaRow
namespace Go.Proofs.Ytifpnfhmemdljaa
open Go.RowKit
set_option linter.unusedVariables false
def cts (bs vs : List Int) : List Int := (List.range (bs.length + 1)).map fun i => ((vs.countP fun v => cntB bs v == i : Nat) : Int)
theorem cts_len (bs vs : List Int) : (cts bs vs).length = bs.length + 1 := by unfold cts; rw [List.length_map, List.length_range]
theorem cts_at (bs vs : List Int) (i : Nat) (h : i < bs.length + 1) : (cts bs vs)[i]? = some ((vs.countP fun v => cntB bs v == i : Nat) : Int) := by
  unfold cts; rw [List.getElem?_map, List.getElem?_range h]; rfl
theorem cts_bd (bs vs : List Int) : ∀ x ∈ cts bs vs, 0 ≤ x ∧ x ≤ (vs.length : Int) := by
  intro x hx
  obtain ⟨i, _, rfl⟩ := List.mem_map.1 hx
  have := List.countP_le_length (p := fun v => cntB bs v == i) (l := vs)
  omega
theorem cts_nil (bs : List Int) : cts bs [] = List.replicate (bs.length + 1) 0 := by
  refine List.ext_getElem? fun i => ?_
  by_cases h : i < bs.length + 1
  · rw [cts_at bs [] i h, List.getElem?_replicate, if_pos h]; rfl
  · rw [List.getElem?_eq_none (by rw [cts_len]; omega), List.getElem?_eq_none (by simp; omega)]
theorem cts_snoc (bs vs : List Int) (v : Int) (c : Int) (hc : (cts bs vs)[cntB bs v]? = some c) : cts bs (vs ++ [v]) = (cts bs vs).set (cntB bs v) (c + 1) := by
  have hj := cntB_le bs v
  rw [cts_at bs vs _ (by omega)] at hc
  injection hc with hc
  refine List.ext_getElem? fun i => ?_
  by_cases h : i < bs.length + 1
  · rw [cts_at bs _ i h, List.countP_append, List.getElem?_set, cts_len]
    by_cases hi : cntB bs v = i
    · rw [if_pos hi, if_pos (by omega), ← hc, hi]
      simp [hi]
    · rw [if_neg hi, cts_at bs vs i h]
      have : (List.countP (fun v => cntB bs v == i) [v]) = 0 := by simp [hi]
      rw [this]; rfl
  · rw [List.getElem?_eq_none (by rw [cts_len]; omega), List.getElem?_eq_none (by rw [List.length_set, cts_len]; omega)]
theorem set_sum : ∀ (l : List Int) (j : Nat) (c : Int), l[j]? = some c → (l.set j (c + 1)).sum = l.sum + 1
  | [], j, c, h => by simp at h
  | x :: l, 0, c, h => by simp at h; subst h; simp; omega
  | x :: l, j + 1, c, h => by
    have := set_sum l j c (by simpa using h)
    simp only [List.set_cons_succ, List.sum_cons, this]; omega
theorem cts_sum (bs vs : List Int) : (cts bs vs).sum = (vs.length : Int) := by
  have H : ∀ n, ∀ vs : List Int, vs.length = n → (cts bs vs).sum = (n : Int) := by
    intro n
    induction n with
    | zero =>
      intro vs h
      rw [List.eq_nil_of_length_eq_zero h, cts_nil]
      generalize bs.length + 1 = k
      induction k with
      | zero => rfl
      | succ k ih => rw [List.replicate_succ, List.sum_cons, ih]; rfl
    | succ n ih =>
      intro vs h
      obtain ⟨us, v, rfl⟩ : ∃ us v, vs = us ++ [v] := ⟨vs.take n, vs[n], by rw [List.take_append_getElem, List.take_of_length_le (by omega)]⟩
      have hc := cts_at bs us (cntB bs v) (by have := cntB_le bs v; omega)
      rw [cts_snoc bs us v _ hc, set_sum _ _ _ hc, ih us (by simp at h; omega)]; omega
  exact H _ vs rfl
theorem cts_app (bs x y : List Int) : List.zipWith (· + ·) (cts bs x) (cts bs y) = cts bs (x ++ y) := by
  refine List.ext_getElem? fun i => ?_
  by_cases h : i < bs.length + 1
  · rw [List.getElem?_zipWith, cts_at bs x i h, cts_at bs y i h, cts_at bs (x ++ y) i h, List.countP_append]
    simp
  · rw [List.getElem?_eq_none (by rw [List.length_zipWith, cts_len, cts_len]; omega), List.getElem?_eq_none (by rw [cts_len]; omega)]
theorem Ow.setI {w0 w : World} {e : TypeId} {b n c i : Nat} {l : List Int} (h : Ow w0 w e 1 gI (.slice (some ⟨b, 0, none⟩) n c) l) (hi : i < l.length) (x : Int) : Ow w0 (w.setCell ⟨b, i, none⟩ (.int .i64 x)) e 1 gI (.slice (some ⟨b, 0, none⟩) n c) (l.set i x) := by
  obtain ⟨b', cur, hA, _, hb, _⟩ := h.rowG (by omega)
  injection hA with hA; injection hA with hA; subst hA
  obtain rfl : n = l.length := by
    have := h.own.1
    rw [flatMap_len _ 1 (fun _ => rfl)] at this
    rcases h.own.2 with ⟨_, h0⟩ | ⟨_, _, _, hv, _⟩
    · omega
    · injection hv with _ hv
  have h1 := own_set (f := fun x => .int .i64 x) h.own hi x
  exact ⟨by rw [List.length_set]; exact h1, h.below.setCell hb _⟩
set_option maxHeartbeats 1000000 in
theorem quant_Counts (A B : Option Addr) (n c m d : Nat) (l bs : List Int) (w : World) (hn : n ≤ 120) (hA : Sl w 1 A n (ints l)) (hB : Sl w 1 B m (ints bs)) (hb : BdIn bs) :
    Calls Try.prog 8 #[.slice A n c, .slice B m d] w fun e w' => ∃ v, e = .returned (.tuple #[v, .int .i64 0]) ∧ Ow w w' 3 1 gI v (cts bs l) := by
  have HA := hid hA; have HB := hid hB; have HI := hid hb
  have HLA := hid hA.leni; have HLB := hid hB.leni
  have hm := hb.len
  rw [HLB.out] at hm
  clear hA hB hb
  have i1 : ¬ (120 : Int) < (n : Int) := by omega
  have hmk := run_make_row' (P := Try.prog) 22 3 (.int .i64 0) 8 Try.underlying22 (by kernel_rfl) rfl .i64 .i64 (m + 1) (by omega) (by omega)
  simp only [show ((m + 1 : Nat) : Int) = (m : Int) + 1 by omega] at hmk
  go_enter Try.func8, Try.ntmps8
  go_wp2_with fail
  refine (quant_bounded B m d bs w HB.out HI.out).mono ?_
  rintro e w2 ⟨rfl, hb2⟩
  have HB2 := hid hb2; clear hb2
  have hcl : (cts bs []).length = m + 1 := by rw [cts_len, HLB.out]
  have hcells : (madeCells #[.int .i64 0] (m + 1)).toList = (cts bs []).flatMap gI := by
    rw [Go.toList_madeCells_one, cts_nil, HLB.out]
    generalize m + 1 = q
    induction q with
    | zero => rfl
    | succ q ih => rw [List.replicate_succ, List.replicate_succ, List.flatMap_cons, ← ih]; rfl
  have H0 : Hid (Ow w (w2.alloc (.cells (madeCells #[.int .i64 0] (m + 1)) 3)) 3 1 gI (.slice (some ⟨w2.heap.size, 0, none⟩) (m + 1) (m + 1)) (cts bs [])) := by
    refine hid ⟨⟨by rw [flatMap_len _ 1 (fun _ => rfl)], .inr ⟨w2.heap.size, m + 1, madeCells #[.int .i64 0] (m + 1), by rw [hcl], HB2.out.size, Blk.new w2 _ _, by rw [hcl]; exact Nat.le_refl _, by unfold maxLen; omega, by simp [madeCells], ?_⟩⟩, bnew HB2.out _⟩
    rw [hcells, hcl, Nat.mul_one, List.take_of_length_le (by rw [flatMap_len _ 1 (fun _ => rfl), hcl]; omega)]
  clear hcl hcells
  go_wp2_with fail
  go_loopw [25] (fun i wr => ∃ k : Nat, k ≤ n ∧ i = .int .i64 k ∧ Ow w wr 3 1 gI (.slice (some ⟨w2.heap.size, 0, none⟩) (m + 1) (m + 1)) (cts bs (l.take k))) (fun i _ => n - (intOf i).toNat)
  case atStart => exact ⟨0, Nat.zero_le _, rfl, H0.out⟩
  case round =>
    obtain ⟨k, hk, rfl, ho⟩ := hrel
    have HO := hid ho; clear ho
    by_cases hlt : k < n
    · obtain ⟨ad, x, rfl, hx, c0⟩ := (HA.out.below HO.out.below).ati hlt
      have hj := cntB_le bs x
      rw [HLB.out] at hj
      have hc := cts_at bs (l.take k) (cntB bs x) (by rw [HLB.out]; omega)
      have hcb : (List.countP (fun v => cntB bs v == cntB bs x) (l.take k)) ≤ k := Nat.le_trans List.countP_le_length (by rw [List.length_take]; omega)
      obtain ⟨cc, hcc⟩ : ∃ cc, (List.countP (fun v => cntB bs v == cntB bs x) (l.take k)) = cc := ⟨_, rfl⟩
      rw [hcc] at hc hcb
      have HS := hid (show cts bs (l.take (k + 1)) = (cts bs (l.take k)).set (cntB bs x) ((cc : Int) + 1) by rw [take_next hx]; exact cts_snoc bs _ x _ hc)
      have HCL := hid (cts_len bs (l.take k))
      have HC := hid hc
      have HBS := fun W h => hid (bsearch B m d bs x W h HI.out)
      generalize cntB bs x = j at *
      generalize cts bs (l.take k) = y at *
      clear hx hcc hc
      have i2 : (k : Int) < (n : Int) := by omega
      go_wp2_with fail
      refine (HBS wr (HB.out.below HO.out.below)).out.mono ?_
      rintro e w3 ⟨⟨f, rfl⟩, hb3⟩
      have HO3 := hid (HO.out.step hb3)
      obtain ⟨t0, f0⟩ := HO3.out.cellG (g := gI) (j := 0) (fun _ => rfl) HC.out (u := .int .i64 (cc : Int)) rfl
      rw [Nat.mul_one, Nat.add_zero] at t0 f0
      clear hb3
      have i3 : (j : Int) < (m : Int) + 1 := by omega
      have i4 : j < m + 1 := by omega
      have hblt := World.block_lt_of_cell? w3 _ t0
      go_wp2_with fail
      go_roundw
      case rel => exact ⟨k + 1, by omega, by go_num, by rw [HS.out]; exact HO3.out.setI (by rw [HCL.out, HLB.out]; omega) _⟩
      case measure => simp [intOf]; omega
    · obtain rfl : k = n := by omega
      have E := hid (show l.take k = l from List.take_of_length_le (by rw [HLA.out]; exact Nat.le_refl _))
      rw [E.out] at HO
      have i2 : ¬ (k : Int) < (k : Int) := by omega
      go_wp2
      go_ret2
      exact ⟨_, rfl, HO.out⟩
def jnK (a b : List Int) (k : Nat) : List Int := List.zipWith (· + ·) (a.take k) (b.take k) ++ a.drop k
theorem jnK_step (a b : List Int) (k : Nat) (x y : Int) (hl : a.length = b.length) (hx : a[k]? = some x) (hy : b[k]? = some y) : jnK a b (k + 1) = (jnK a b k).set k (x + y) ∧ (jnK a b k)[k]? = some x ∧ (jnK a b k).length = a.length := by
  have hk := (List.getElem?_eq_some_iff.1 hx).1
  have h1 : (List.zipWith (· + ·) (a.take k) (b.take k)).length = k := by rw [List.length_zipWith, List.length_take, List.length_take]; omega
  have h2 : a.drop k = x :: a.drop (k + 1) := by
    rw [List.drop_eq_getElem_cons hk]
    rw [List.getElem?_eq_getElem hk] at hx; injection hx with hx; rw [hx]
  have h3 : List.zipWith (· + ·) (a.take (k + 1)) (b.take (k + 1)) = List.zipWith (· + ·) (a.take k) (b.take k) ++ [x + y] := by
    rw [take_next hx, take_next hy, List.zipWith_append (by rw [List.length_take, List.length_take]; omega)]; rfl
  unfold jnK
  refine ⟨?_, ?_, ?_⟩
  · rw [h3, h2, List.set_append_right _ _ (by omega), h1, Nat.sub_self, List.append_assoc]; rfl
  · rw [List.getElem?_append_right (by omega), h1, Nat.sub_self, h2]; rfl
  · rw [List.length_append, h1, List.length_drop]; omega
end Go.Proofs.Ytifpnfhmemdljaa
