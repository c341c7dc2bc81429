/-
  Package roll: the walks of of, Of, may, Join.
-/
import Derived.Test.YtifpnfhmemdljaaDoorRoll
namespace Go.Proofs.YtifpnfhmemdljaaDoor
open Go.RowKit
set_option linter.unusedVariables false

def vals (l : List (Int × Int)) : List Int := l.map (·.2)
theorem vals_snoc (l : List (Int × Int)) (x : Int × Int) : vals (l ++ [x]) = vals l ++ [x.2] := by unfold vals; simp
def VBd (l : List (Int × Int)) : Prop := ∀ x ∈ l, -18014398509481984 ≤ x.2 ∧ x.2 ≤ 18014398509481984
set_option maxHeartbeats 1000000 in
theorem roll_of (A : Option Addr) (n c : Nat) (l : List (Int × Int)) (w : World) (hn : n ≤ 120) (h : Sl w 2 A n (l.flatMap gP)) (hl : VBd l) :
    Calls Tryd.prog 14 #[.slice A n c] w fun e w' => e = .returned (.agg (rAll (vals l)).cs) ∧ Below w.heap.size w w' := by
  have H := hid h; have HV := hid hl
  have HL := hid (show l.length = n by have := h.1; rw [flatMap_len gP 2 (fun _ => rfl)] at this; omega)
  clear h hl
  have HB0 := hid (bnew (bnil w) (.cells #[.int .i64 0, .int .i64 0, .int .i64 0, .int .i64 0] 33))
  have HK0 := hid (Blk.new w 33 #[.int .i64 0, .int .i64 0, .int .i64 0, .int .i64 0])
  go_enter Tryd.func14, Tryd.ntmps14
  go_wp2
  go_loopw [7] (fun i wr => ∃ (k : Nat) (r : R4), k ≤ n ∧ i = .int .i64 k ∧ Hid (rAll (vals (l.take k)) = r) ∧ Blk wr w.heap.size 33 r.cs ∧ Below w.heap.size w wr) (fun i _ => n - (intOf i).toNat)
  case atStart => exact ⟨0, r0, Nat.zero_le _, rfl, hid rfl, HK0.out, HB0.out⟩
  case round =>
    obtain ⟨k, r, hk, rfl, HR, hbk, hb⟩ := hrel
    have k0 : wr.cell? ⟨w.heap.size, 0, none⟩ = some (.int .i64 r.c) := hbk.cell 0
    have k1 : wr.cell? ⟨w.heap.size, 1, none⟩ = some (.int .i64 r.mn) := hbk.cell 1
    have k2 : wr.cell? ⟨w.heap.size, 2, none⟩ = some (.int .i64 r.mx) := hbk.cell 2
    have k3 : wr.cell? ⟨w.heap.size, 3, none⟩ = some (.int .i64 r.sm) := hbk.cell 3
    have f0 := hbk.frozen 0
    have f1 := hbk.frozen 1
    have f2 := hbk.frozen 2
    have f3 := hbk.frozen 3
    have hlt0 := hbk.lt
    have HBK := hid hbk; have HB := hid hb; clear hbk hb
    by_cases hlt : k < n
    · obtain ⟨ad, x, rfl, hx, c0, c1⟩ := (H.out.below HB.out).atS hlt
      obtain ⟨xt, xv⟩ := x
      simp only at c0 c1
      have hv := HV.out _ (List.mem_of_getElem? hx)
      simp only at hv
      have HR2 := hid (show rAll (vals (l.take (k + 1))) = rWith r xv by rw [take_next hx, vals_snoc, rAll_snoc, HR.out])
      have hok : r.ok := by
        rw [← HR.out]
        refine rAll_ok _ (by unfold vals; rw [List.length_map, List.length_take]; omega) ?_
        intro v hv
        obtain ⟨y, hy, rfl⟩ := List.mem_map.1 hv
        exact HV.out y (List.mem_of_mem_take hy)
      obtain ⟨q, hq⟩ : ∃ q, rWith r xv = q := ⟨_, rfl⟩
      have HC := fun W => hid (roll_with r xv W hok (by omega) (by omega))
      rw [hq] at HR2 HC
      obtain ⟨qc, qn, qx, qz⟩ := q
      clear hx hv hok hq
      have i1 : (k : Int) < (n : Int) := by omega
      go_wp2_with fail
      refine (HC _).out.mono ?_
      rintro e w2 ⟨rfl, hb2⟩
      have HB2 := hid (bgo' hb2 (bnew HB.out _))
      have hk : Blk w2 w.heap.size 33 r.cs := (HBK.out.alloc _).below' hb2
      have HK := hid hk
      have g0 : w2.cell? ⟨w.heap.size, 0, none⟩ = some (.int .i64 r.c) := hk.cell 0
      have g1 : w2.cell? ⟨w.heap.size, 1, none⟩ = some (.int .i64 r.mn) := hk.cell 1
      have g2 : w2.cell? ⟨w.heap.size, 2, none⟩ = some (.int .i64 r.mx) := hk.cell 2
      have g3 : w2.cell? ⟨w.heap.size, 3, none⟩ = some (.int .i64 r.sm) := hk.cell 3
      have h0 := hk.frozen 0
      have h1 := hk.frozen 1
      have h2 := hk.frozen 2
      have h3 := hk.frozen 3
      clear hb2 hk HC
      go_wp2
      go_roundw
      case rel => exact ⟨k + 1, _, by omega, by go_num, HR2, fill4 HK.out, fill4b HB2.out (Nat.le_refl _)⟩
      case measure => simp [intOf]; omega
    · have i1 : ¬ (k : Int) < (n : Int) := by omega
      have HE := hid (show rAll (vals l) = r by rw [← HR.out, List.take_of_length_le (by rw [HL.out]; omega)])
      go_wp2
      rw [HE.out]
      have h4 := fill4 (x := .int .i64 r.c) (y := .int .i64 r.mn) (z := .int .i64 r.mx) (u := .int .i64 r.sm) HBK.out
      have q0 := h4.cell 0; have q1 := h4.cell 1; have q2 := h4.cell 2; have q3 := h4.cell 3
      refine bodyPost_ret (v := .agg #[.int .i64 r.c, .int .i64 r.mn, .int .i64 r.mx, .int .i64 r.sm]) (by simp [results, Tryd.results14, go_sem, q0, q1, q2, q3]) rfl ⟨rfl, ?_⟩
      exact fill4b HB.out (Nat.le_refl _)
theorem SmpsIn.ok {l : List (Int × Int)} (h : SmpsIn l) : SmpsOk l :=
  ⟨fun x hx => by have := h.bd x hx; unfold SmpOk; omega, h.up⟩
theorem SmpsIn.v {l : List (Int × Int)} (h : SmpsIn l) : VBd l := fun x hx => (h.bd x hx).2.2
set_option maxHeartbeats 1000000 in
theorem roll_Of (A : Option Addr) (n c : Nat) (l : List (Int × Int)) (w : World) (hn : n ≤ 120) (h : Sl w 2 A n (l.flatMap gP)) (hl : SmpsIn l) (ht : ZTab w) :
    Calls Tryd.prog 7 #[.slice A n c] w fun e w' => e = .returned (.tuple #[.agg (rAll (vals l)).cs, .int .i64 0]) ∧ Below w.heap.size w w' := by
  have H := hid h; have HI := hid hl; have HT := hid ht; clear h hl ht
  have HTL := HT.out.lt
  obtain ⟨r, hr⟩ : ∃ r, rAll (vals l) = r := ⟨_, rfl⟩
  have HR := hid hr
  rw [hr]
  clear hr
  go_enter Tryd.func7, Tryd.ntmps7
  go_wp2_with fail
  refine (ck_encode A n c l _ hn (H.out.below (bnew (bnil w) _)) HI.out.ok (HT.out.below (bnew (bnil w) _))).mono ?_
  rintro e w2 ⟨v2, rfl, ho2⟩
  have HB2 := hid ho2.below
  have HK2 := hid (Blk.below' (Blk.new w 33 #[.int .i64 0, .int .i64 0, .int .i64 0, .int .i64 0]) ho2.below)
  clear ho2
  go_wp2_with fail
  refine (roll_of A n c l w2 hn (H.out.below (bgo' HB2.out (bnew (bnil w) _))) HI.out.v).mono ?_
  rw [HR.out]
  rintro e w3 ⟨rfl, hb3⟩
  have HB3 := hid (bgo' hb3 (bgo' HB2.out (bnew (bnil w) _)))
  have hk := HK2.out.below' hb3
  have HK := hid hk
  have g0 : w3.cell? ⟨w.heap.size, 0, none⟩ = some (.int .i64 0) := hk.cell 0
  have g1 : w3.cell? ⟨w.heap.size, 1, none⟩ = some (.int .i64 0) := hk.cell 1
  have g2 : w3.cell? ⟨w.heap.size, 2, none⟩ = some (.int .i64 0) := hk.cell 2
  have g3 : w3.cell? ⟨w.heap.size, 3, none⟩ = some (.int .i64 0) := hk.cell 3
  have h0 := hk.frozen 0
  have h1 := hk.frozen 1
  have h2 := hk.frozen 2
  have h3 := hk.frozen 3
  clear hk hb3
  go_wp2
  have h4 := fill4 (x := .int .i64 r.c) (y := .int .i64 r.mn) (z := .int .i64 r.mx) (u := .int .i64 r.sm) HK.out
  have q0 := h4.cell 0; have q1 := h4.cell 1; have q2 := h4.cell 2; have q3 := h4.cell 3
  refine bodyPost_ret (v := .tuple #[.agg #[.int .i64 r.c, .int .i64 r.mn, .int .i64 r.mx, .int .i64 r.sm], .int .i64 0]) (by simp [results, Tryd.results7, go_sem, q0, q1, q2, q3]) rfl ⟨rfl, ?_⟩
  exact fill4b HB3.out (Nat.le_refl _)
def W61 (x : Int) : Prop := -2305843009213693952 ≤ x ∧ x < 2305843009213693952
def MayOk (r : R4) : Prop := r = r0 ∨ (1 ≤ r.c ∧ r.c ≤ 1048576 ∧ r.mn ≤ r.mx ∧ W61 r.mn ∧ W61 r.mx ∧ W61 r.sm)
theorem MayOk.ok {r : R4} (h : MayOk r) : r.ok := by
  rcases h with rfl | ⟨h1, h2, h3, h4, h5, h6⟩
  · exact ⟨by decide, by decide, by decide, by decide⟩
  · unfold R4.ok; unfold W61 at h6; omega
theorem rAll_may (vs : List Int) (hl : vs.length ≤ 120) (h : ∀ v ∈ vs, -18014398509481984 ≤ v ∧ v ≤ 18014398509481984) : MayOk (rAll vs) := by
  by_cases h0 : vs = []
  · left; rw [h0]; rfl
  · right
    obtain ⟨m1, m2⟩ := rAll_mem vs h0
    have b1 := h _ m1
    have b2 := h _ m2
    have b3 := (rAll_bd vs _ m2).1
    have b4 := sum_bd vs 18014398509481984 h
    have b5 : 0 < vs.length := List.length_pos_iff.2 h0
    rw [rAll_c, rAll_sm]
    unfold W61
    omega
end Go.Proofs.YtifpnfhmemdljaaDoor
