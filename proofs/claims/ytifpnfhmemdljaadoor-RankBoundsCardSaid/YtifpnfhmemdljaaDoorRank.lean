/-
  quant.Rank: its walk.
-/
import Derived.Test.YtifpnfhmemdljaaDoorSorted
import Derived.Test.YtifpnfhmemdljaaDoorRankS
namespace Go.Proofs.YtifpnfhmemdljaaDoor
open Go.RowKit
set_option linter.unusedVariables false

def rkI (n o p : Nat) : Nat := (List.range n).countP fun k => decide ((k + 1) * o < p * n)
theorem rkI_lt {n o p : Nat} (hn : 1 ≤ n) (h : p ≤ o) : rkI n o p < n := by
  obtain ⟨h1, h2, _⟩ := rankI_of n o p h
  rcases Nat.lt_or_ge (rkI n o p) n with h3 | h3
  · exact h3
  · have h4 := h2 (n - 1) (show n - 1 < rkI n o p by omega)
    rw [Nat.sub_add_cancel hn] at h4
    have : p * n ≤ n * o := by rw [Nat.mul_comm n o]; exact Nat.mul_le_mul_right n h
    omega
/-- the values, sorted -/
def srt (l : List Int) : List Int := l.mergeSort fun x y => decide (x ≤ y)
theorem srt_len (l : List Int) : (srt l).length = l.length := by unfold srt; simp
/-- the quantile -/
def rk (l : List Int) (o p : Nat) : Int := (srt l).getD (rkI l.length o p) 0
set_option maxHeartbeats 1000000 in
theorem rank_share (o p : Nat) (w : World) (h1 : 1 ≤ o) (ho : o ≤ 1048576) (hp : p ≤ o) : Calls Tryd.prog 8 #[.int .i64 (p : Int), .int .i64 (o : Int)] w fun e w' => e = .returned (.bool true) ∧ w = w' := by
  have i1 : (1 : Int) ≤ (o : Int) := by omega
  have i2 : (o : Int) ≤ 1048576 := by omega
  have i3 : (0 : Int) ≤ (p : Int) := by omega
  have i4 : (p : Int) ≤ (o : Int) := by omega
  go_enter Tryd.func8, Tryd.ntmps8
  go_wp2
  go_ret
  exact ⟨rfl, rfl⟩
theorem values_c (a : Option Addr) (len cap : Nat) (w : World) : Calls Tryd.prog 10 #[.slice a len cap] w fun e w' => e = .returned (.func (.func 17) #[] #[.pointer (some ⟨w.heap.size, 0, none⟩)]) ∧ w' = w.alloc (.cells #[.slice a len cap] 27) :=
  (callsIn_wide (n := 3)).1 (values_in _ _ trivial rfl a len cap w)
theorem sorted_c (b cap : Nat) (zs : List Int) (hlen : zs.length ≤ 1000000) (h1z : 1 ≤ zs.length) (w : World) (Bs : Nat) (hBs : Bs < w.heap.size) (hcB : w.cell? ⟨Bs, 0, none⟩ = some (.slice (some ⟨b, 0, none⟩) zs.length cap)) (hb : b < w.heap.size) (hI : Sl w 1 (some ⟨b, 0, none⟩) zs.length (ints zs)) :
    Calls Tryd.prog 9 #[.func (.func 17) #[] #[.pointer (some ⟨Bs, 0, none⟩)]] w fun e W' => ∃ v, e = .returned v ∧ Ow w W' 3 1 gI v (srt zs) := by
  refine (callsIn_wide (n := 6)).1 ((sorted_in _ _ trivial trivial trivial trivial trivial rfl rfl (by omega) Bs b 0 cap zs hlen h1z w hBs hcB hb fun j hj => ?_).mono ?_)
  · obtain ⟨ad, x, e, hx, hc⟩ := hI.ati hj
    injection e with e
    subst e
    rw [hx]
    rw [Nat.zero_add]
    have e : (⟨b, 0, none⟩ : Addr).add j = ⟨b, j, none⟩ := by
      unfold Addr.add
      split
      · simp_all
      · simp
    rw [e] at hc
    exact hc
  · rintro e w' ⟨v, rfl, hrow, hb2⟩
    refine ⟨v, rfl, ⟨?_, hb2⟩⟩
    rw [srt_len]
    have e2 : (srt zs).flatMap gI = (zs.mergeSort fun x y => decide (x ≤ y)).map (Value.int .i64) := by
      unfold srt
      generalize (zs.mergeSort fun x y => decide (x ≤ y)) = ys
      induction ys with
      | nil => rfl
      | cons y ys ih => rw [List.flatMap_cons, List.map_cons, ih]; rfl
    rw [e2]
    exact hrow
theorem own_at {w : World} {B e sz n : Nat} {v : Value} {xs : List Value} (h : w.ownsRow B e sz v n xs) (hn : 0 < n) : ∃ b c, v = .slice (some ⟨b, 0, none⟩) n c ∧ B ≤ b ∧ ∀ j u, xs[j]? = some u → w.cell? ⟨b, j, none⟩ = some u := by
  rcases h.2 with ⟨_, h0⟩ | ⟨g, cap, cur, rfl, hb, hh, h1, h2, h3, h4⟩
  · omega
  · refine ⟨g, cap, rfl, hb, fun j u hu => ?_⟩
    have := h.cells (g := g) rfl j u hu
    rw [ad_at] at this
    exact this
theorem blkR (w : World) (t : TypeId) (cs : Array Value) (g : Nat) (h : w.heap.size = g) : Blk (w.alloc (.cells cs t)) g t cs := by subst h; exact Blk.new w t cs
set_option maxHeartbeats 2000000 in
theorem rank_of (b c o p : Nat) (zs : List Int) (w : World) (h1z : 1 ≤ zs.length) (hz : zs.length ≤ 120) (h1 : 1 ≤ o) (ho : o ≤ 1048576) (hp : p ≤ o) (hb : b < w.heap.size) (hI : Sl w 1 (some ⟨b, 0, none⟩) zs.length (ints zs)) :
    Calls Tryd.prog 6 #[.slice (some ⟨b, 0, none⟩) zs.length c, .int .i64 (p : Int), .int .i64 (o : Int)] w fun e w' => e = .returned (.tuple #[.int .i64 (rk zs o p), .int .i64 0]) ∧ Below w.heap.size w w' := by
  have HI := hid hI
  clear hI
  obtain ⟨n, hn⟩ : ∃ n, zs.length = n := ⟨_, rfl⟩
  have HN := hid hn
  rw [hn] at h1z hz HI ⊢
  have i1 : ¬ ((120 : Int) < (n : Int)) := by omega
  have i2 : ¬ ((n : Int) = 0) := by omega
  clear hn
  go_enter Tryd.func6, Tryd.ntmps6
  obtain ⟨g2, hg2⟩ : ∃ g2, w.heap.size = g2 := ⟨_, rfl⟩
  have HP := hid ((blkR w 3 #[.int .i64 (p : Int)] g2 hg2).below' (bnew (bnil _) (.cells #[.int .i64 (o : Int)] 3)))
  have HO := hid (blkR (w.alloc (.cells #[.int .i64 (p : Int)] 3)) 3 #[.int .i64 (o : Int)] (g2 + 1) (by rw [World.size_alloc, hg2]))
  have BA := hid (bnew (bnew (bnil w) (.cells #[.int .i64 (p : Int)] 3)) (.cells #[.int .i64 (o : Int)] 3))
  go_wp2_with fail
  generalize World.alloc (World.alloc w _) _ = wA at *
  refine (rank_share o p wA h1 ho hp).mono ?_
  rintro e w' ⟨rfl, rfl⟩
  clear hg2
  go_wp2_with fail
  refine (values_c (some ⟨b, 0, none⟩) n c wA).mono ?_
  rintro e w' ⟨rfl, rfl⟩
  have hbA : b < wA.heap.size := Nat.lt_of_lt_of_le hb BA.out.size
  have HS := hid (sorted_c b c zs (by rw [HN.out]; omega) (by rw [HN.out]; exact h1z) (wA.alloc (.cells #[.slice (some ⟨b, 0, none⟩) zs.length c] 27)) wA.heap.size (by rw [World.size_alloc]; omega) ((Blk.new wA 27 #[.slice (some ⟨b, 0, none⟩) zs.length c]).cell 0) (by rw [World.size_alloc]; omega) (by rw [HN.out]; exact (HI.out.below BA.out).below (bnew (bnil wA) _)))
  rw [HN.out] at HS
  have BV := hid (bnew (bnil wA) (.cells #[.slice (some ⟨b, 0, none⟩) n c] 27))
  go_wp2_with fail
  refine HS.out.mono ?_
  rintro e w4 ⟨v, rfl, o4⟩
  obtain ⟨A4, c4, rfl, hc4, hc42⟩ := o4.form
  rw [srt_len, HN.out] at hc4 ⊢
  have O4 := hid o4
  have B4 := hid (bgo BV.out o4.below)
  obtain ⟨b4, c5, e4, _, hcell4⟩ := own_at o4.own (by rw [srt_len, HN.out]; omega)
  injection e4 with e4 e5 e6
  subst e4
  subst e6
  clear e5
  have hi := rkI_lt (n := n) (o := o) (p := p) h1z hp
  have HCI := hid (show w4.cell? ⟨b4, rkI n o p, none⟩ = some (.int .i64 (rk zs o p)) by
    have hx : (srt zs)[rkI n o p]? = some (rk zs o p) := by
      unfold rk
      rw [HN.out, List.getD_eq_getElem?_getD, List.getElem?_eq_getElem (by rw [srt_len, HN.out]; exact hi)]; rfl
    have h := flatMap_at gI 1 (fun _ => rfl) (srt zs) (rkI n o p) 0 _ hx (by decide)
    rw [Nat.mul_one, Nat.add_zero] at h
    exact hcell4 _ _ (by rw [h]; rfl))
  clear o4 hcell4
  obtain ⟨g3, hg3⟩ : ∃ g3, w4.heap.size = g3 := ⟨_, rfl⟩
  have HL3 := hid (blkR w4 27 #[.slice (some ⟨b4, 0, none⟩) n c4] g3 hg3)
  have BL3 := hid (bnew (bnil w4) (.cells #[.slice (some ⟨b4, 0, none⟩) n c4] 27))
  go_wp2_with fail
  generalize World.alloc w4 _ = w5 at *
  clear hg3
  refine (search_rank (g2 + 1) g2 g3 (some ⟨b4, 0, none⟩) n c4 o p (rkI n o p) w5 (by omega) ho (by omega) (HO.out.below' (bgo B4.out BL3.out)) (HP.out.below' (bgo B4.out BL3.out)) HL3.out (rankI_of n o p hp)).mono ?_
  rintro e w6 ⟨rfl, b6⟩
  have k3 := (HL3.out.below' b6).cell 0
  simp only [List.getElem?_toArray, List.getElem?_cons_zero] at k3
  have k4 := cell_below (bgo BL3.out b6) HCI.out
  obtain ⟨I, hI⟩ : ∃ I, rkI n o p = I := ⟨_, rfl⟩
  rw [hI] at hi k4 ⊢
  have B6 := hid (bgo (bgo BA.out B4.out) (bgo BL3.out b6))
  have iI : (I : Int) < (n : Int) := by omega
  clear hI b6 HL3 BL3 HCI HS
  go_wp2_with fail
  go_ret2
  exact ⟨rfl, B6.out⟩
end Go.Proofs.YtifpnfhmemdljaaDoor
