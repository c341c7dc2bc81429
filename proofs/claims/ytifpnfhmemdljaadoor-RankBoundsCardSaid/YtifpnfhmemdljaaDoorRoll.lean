/-
  Package roll: the walks of joined, With, of, Of, may, Join.
-/
import Derived.Test.YtifpnfhmemdljaaDoorChunk
import Derived.Test.YtifpnfhmemdljaaDoorSamp
namespace Go.Proofs.YtifpnfhmemdljaaDoor
open Go.RowKit
set_option linter.unusedVariables false

structure R4 where
  c : Int
  mn : Int
  mx : Int
  sm : Int
deriving DecidableEq
abbrev R4.cs (r : R4) : Array Value := #[.int .i64 r.c, .int .i64 r.mn, .int .i64 r.mx, .int .i64 r.sm]
def rJoin (a b : R4) : R4 := if a.c = 0 then b else if b.c = 0 then a else ⟨a.c + b.c, if b.mn < a.mn then b.mn else a.mn, if a.mx < b.mx then b.mx else a.mx, a.sm + b.sm⟩
def R4.ok (r : R4) : Prop := 0 ≤ r.c ∧ r.c ≤ 4194304 ∧ -4611686018427387904 ≤ r.sm ∧ r.sm ≤ 4611686018427387903

set_option maxHeartbeats 1000000 in
theorem roll_joined (a b : R4) (w : World) (ha : a.ok) (hb : b.ok) :
    Calls Tryd.prog 30 #[.agg a.cs, .agg b.cs] w fun e w' => e = .returned (.agg (rJoin a b).cs) ∧ Below w.heap.size w w' := by
  obtain ⟨ac, an, ax, az⟩ := a
  obtain ⟨bc, bn, bx, bs⟩ := b
  unfold R4.ok at ha hb
  simp only at ha hb
  obtain ⟨a1, a2, a3, a4⟩ := ha
  obtain ⟨b1, b2, b3, b4⟩ := hb
  obtain ⟨r, hr⟩ : ∃ r, rJoin ⟨ac, an, ax, az⟩ ⟨bc, bn, bx, bs⟩ = r := ⟨_, rfl⟩
  rw [hr]
  have HR := hid hr; clear hr
  have es : IntKind.i64.wrap (az + bs) = az + bs := IntWalk.i64_in _ (by omega)
  have ec : IntKind.i64.wrap (ac + bc) = ac + bc := IntWalk.i64_in _ (by omega)
  clear a1 a2 a3 a4 b1 b2 b3 b4
  by_cases ha0 : ac = 0
  · have HE := hid (show r = ⟨bc, bn, bx, bs⟩ by rw [← HR.out]; unfold rJoin; rw [if_pos ha0])
    have e1 := beqT ha0
    clear HR ha0
    go_enter Tryd.func30, Tryd.ntmps30
    go_wp2
    rw [HE.out]
    refine bodyPost_ret (v := .agg #[.int .i64 bc, .int .i64 bn, .int .i64 bx, .int .i64 bs]) (by simp [results, Tryd.results30, go_sem]) rfl ⟨rfl, ?_⟩
    exact bnew (bnew (bnew (bnil w) _) _) _
  · have e1 := beqF ha0
    by_cases hb0 : bc = 0
    · have HE := hid (show r = ⟨ac, an, ax, az⟩ by rw [← HR.out]; unfold rJoin; rw [if_neg ha0, if_pos hb0])
      have e2 := beqT hb0
      clear HR ha0 hb0
      go_enter Tryd.func30, Tryd.ntmps30
      go_wp2
      rw [HE.out]
      refine bodyPost_ret (v := .agg #[.int .i64 ac, .int .i64 an, .int .i64 ax, .int .i64 az]) (by simp [results, Tryd.results30, go_sem]) rfl ⟨rfl, ?_⟩
      exact bnew (bnew (bnew (bnil w) _) _) _
    · have e2 := beqF hb0
      have HE := hid (show r = ⟨ac + bc, if bn < an then bn else an, if ax < bx then bx else ax, az + bs⟩ by rw [← HR.out]; unfold rJoin; rw [if_neg ha0, if_neg hb0])
      clear HR ha0 hb0
      obtain ⟨un, hun⟩ : ∃ u, (if bn < an then bn else an) = u := ⟨_, rfl⟩
      obtain ⟨ux, hux⟩ : ∃ u, (if ax < bx then bx else ax) = u := ⟨_, rfl⟩
      rw [hun, hux] at HE
      go_enter Tryd.func30, Tryd.ntmps30
      go_wp2
      rw [HE.out]
      refine bodyPost_ret (v := .agg #[.int .i64 (ac + bc), .int .i64 un, .int .i64 ux, .int .i64 (az + bs)]) (by simp [results, Tryd.results30, go_sem]) rfl ⟨rfl, ?_⟩
      exact bnew (bnew (bnew (bnil w) _) _) _
theorem fill4 {w : World} {g : Nat} {t : TypeId} {a b c d x y z u : Value} (h : Blk w g t #[a, b, c, d]) : Blk ((((w.setCell ⟨g, 0, none⟩ x).setCell ⟨g, 1, none⟩ y).setCell ⟨g, 2, none⟩ z).setCell ⟨g, 3, none⟩ u) g t #[x, y, z, u] := by
  have := (((h.set_ 0 x).set_ 1 y).set_ 2 z).set_ 3 u
  simpa using this
theorem fill4b {B : Nat} {w0 w : World} {g : Nat} {x y z u : Value} (h : Below B w0 w) (hg : B ≤ g) : Below B w0 ((((w.setCell ⟨g, 0, none⟩ x).setCell ⟨g, 1, none⟩ y).setCell ⟨g, 2, none⟩ z).setCell ⟨g, 3, none⟩ u) :=
  (((h.setCell hg x).setCell hg y).setCell hg z).setCell hg u
theorem Blk.new1 (w : World) (o : Obj) (t : TypeId) (cs : Array Value) : Blk ((w.alloc o).alloc (.cells cs t)) (w.heap.size + 1) t cs := by
  have := Blk.new (w.alloc o) t cs
  rwa [show (w.alloc o).heap.size = w.heap.size + 1 by simp] at this
def rWith (r : R4) (v : Int) : R4 := rJoin r ⟨1, v, v, v⟩
set_option maxHeartbeats 1000000 in
theorem roll_with (r : R4) (v : Int) (w : World) (hr : r.ok) (hv : -4611686018427387904 ≤ v) (hv1 : v ≤ 4611686018427387903) :
    Calls Tryd.prog 24 #[.agg r.cs, .int .i64 v] w fun e w' => e = .returned (.agg (rWith r v).cs) ∧ Below w.heap.size w w' := by
  have HC := fun W => hid (roll_joined r ⟨1, v, v, v⟩ W hr ⟨by simp, by simp, hv, hv1⟩)
  obtain ⟨ac, an, ax, az⟩ := r
  obtain ⟨q, hq⟩ : ∃ q, rJoin ⟨ac, an, ax, az⟩ ⟨1, v, v, v⟩ = q := ⟨_, rfl⟩
  rw [hq] at HC
  have HQ := hid (show rWith ⟨ac, an, ax, az⟩ v = q from hq)
  obtain ⟨qc, qn, qx, qz⟩ := q
  clear hr hv hv1 hq
  go_enter Tryd.func24, Tryd.ntmps24
  go_wp2_with fail
  refine (HC _).out.mono ?_
  rintro e w2 ⟨rfl, hb⟩
  have HB := hid (bgo' hb (bnew (bnew (bnil w) _) _))
  have hk : Blk w2 (w.heap.size + 1) 33 #[.int .i64 0, .int .i64 0, .int .i64 0, .int .i64 0] := Blk.below' (Blk.new1 _ _ _ _) hb
  have HK := hid hk
  have k0 : w2.cell? ⟨w.heap.size + 1, 0, none⟩ = some (.int .i64 0) := hk.cell 0
  have k1 : w2.cell? ⟨w.heap.size + 1, 1, none⟩ = some (.int .i64 0) := hk.cell 1
  have k2 : w2.cell? ⟨w.heap.size + 1, 2, none⟩ = some (.int .i64 0) := hk.cell 2
  have k3 : w2.cell? ⟨w.heap.size + 1, 3, none⟩ = some (.int .i64 0) := hk.cell 3
  have f0 := hk.frozen 0
  have f1 := hk.frozen 1
  have f2 := hk.frozen 2
  have f3 := hk.frozen 3
  clear hb hk
  go_wp2
  rw [HQ.out]
  have h4 := fill4 (x := .int .i64 qc) (y := .int .i64 qn) (z := .int .i64 qx) (u := .int .i64 qz) HK.out
  have q0 := h4.cell 0; have q1 := h4.cell 1; have q2 := h4.cell 2; have q3 := h4.cell 3
  refine bodyPost_ret (v := .agg #[.int .i64 qc, .int .i64 qn, .int .i64 qx, .int .i64 qz]) (by simp [results, Tryd.results24, go_sem, q0, q1, q2, q3]) rfl ⟨rfl, ?_⟩
  exact fill4b HB.out (by omega)

/-! ### plain: the roll of values -/
def r0 : R4 := ⟨0, 0, 0, 0⟩
def rAll (vs : List Int) : R4 := vs.foldl rWith r0
theorem rAll_snoc (vs : List Int) (v : Int) : rAll (vs ++ [v]) = rWith (rAll vs) v := by unfold rAll; rw [List.foldl_append]; rfl
theorem snoc_ind {α : Type} {Q : List α → Prop} (h0 : Q []) (h1 : ∀ l x, Q l → Q (l ++ [x])) (l : List α) : Q l := by
  have H : ∀ n, ∀ l : List α, l.length = n → Q l := by
    intro n
    induction n with
    | zero => intro l h; rw [List.eq_nil_of_length_eq_zero h]; exact h0
    | succ n ih =>
      intro l h
      have e : l = l.take n ++ [l[n]] := by rw [List.take_append_getElem, List.take_of_length_le (by omega)]
      rw [e]
      exact h1 _ _ (ih _ (by rw [List.length_take]; omega))
  exact H _ l rfl
theorem rAll_c (vs : List Int) : (rAll vs).c = (vs.length : Int) := by
  induction vs using snoc_ind with
  | h0 => rfl
  | h1 l x ih =>
    rw [rAll_snoc]; unfold rWith rJoin
    rw [List.length_append]
    split
    · simp; omega
    · simp; omega
theorem rAll_sm (vs : List Int) : (rAll vs).sm = vs.sum := by
  induction vs using snoc_ind with
  | h0 => rfl
  | h1 l x ih =>
    rw [rAll_snoc]; unfold rWith rJoin
    rw [List.sum_append]
    split
    · rename_i h
      rw [rAll_c] at h
      have : l = [] := List.eq_nil_of_length_eq_zero (by omega)
      subst this; simp
    · simp [ih]
theorem rAll_bd (vs : List Int) : ∀ v ∈ vs, (rAll vs).mn ≤ v ∧ v ≤ (rAll vs).mx := by
  induction vs using snoc_ind with
  | h0 => simp
  | h1 l x ih =>
    intro v hv
    rw [rAll_snoc]; unfold rWith rJoin
    split
    · rename_i h
      rw [rAll_c] at h
      have : l = [] := List.eq_nil_of_length_eq_zero (by omega)
      subst this; simp at hv; subst hv; simp
    · rw [if_neg (by simp)]
      simp only
      rcases List.mem_append.1 hv with h | h
      · have := ih v h
        constructor <;> (split <;> omega)
      · simp at h; subst h
        constructor <;> (split <;> omega)
theorem rAll_mem (vs : List Int) (h : vs ≠ []) : (rAll vs).mn ∈ vs ∧ (rAll vs).mx ∈ vs := by
  induction vs using snoc_ind with
  | h0 => exact absurd rfl h
  | h1 l x ih =>
    rw [rAll_snoc]; unfold rWith rJoin
    split
    · simp
    · rename_i hc
      rw [rAll_c] at hc
      have hl : l ≠ [] := by rintro rfl; simp at hc
      obtain ⟨h1, h2⟩ := ih hl
      rw [if_neg (by simp)]
      simp only
      constructor <;> (split <;> simp [h1, h2])
theorem rJoin_assoc (a b c : R4) (ha : 0 ≤ a.c) (hb : 0 ≤ b.c) (hc : 0 ≤ c.c) : rJoin (rJoin a b) c = rJoin a (rJoin b c) := by
  unfold rJoin
  by_cases h1 : a.c = 0
  · simp [h1]
  · by_cases h2 : b.c = 0
    · simp [h1, h2]
    · have h4 : ¬ a.c + b.c = 0 := by omega
      by_cases h3 : c.c = 0
      · simp [h1, h2, h3, h4]
      · have h5 : ¬ b.c + c.c = 0 := by omega
        simp only [h1, h2, h3, h4, h5, if_false, R4.mk.injEq]
        refine ⟨by omega, ?_, ?_, by omega⟩
        · repeat' split
          all_goals omega
        · repeat' split
          all_goals omega
theorem rAll_app (xs ys : List Int) : rJoin (rAll xs) (rAll ys) = rAll (xs ++ ys) := by
  induction ys using snoc_ind with
  | h0 => unfold rJoin; rw [List.append_nil]; split
          · rename_i h; rw [rAll_c] at h; have : xs = [] := List.eq_nil_of_length_eq_zero (by omega)
            subst this; rfl
          · rfl
  | h1 l x ih =>
    rw [rAll_snoc, ← List.append_assoc, rAll_snoc, ← ih]
    unfold rWith
    rw [rJoin_assoc _ _ _ (by rw [rAll_c]; omega) (by rw [rAll_c]; omega) (by simp)]
theorem rJoin_comm (a b : R4) : a.c ≠ 0 → b.c ≠ 0 → rJoin a b = rJoin b a := by
  intro ha hb
  unfold rJoin
  rw [if_neg ha, if_neg hb, if_neg hb, if_neg ha, R4.mk.injEq]
  refine ⟨by omega, ?_, ?_, by omega⟩ <;> (split <;> split <;> omega)
theorem sum_bd (vs : List Int) (B : Int) (h : ∀ v ∈ vs, -B ≤ v ∧ v ≤ B) : -(B * vs.length) ≤ vs.sum ∧ vs.sum ≤ B * vs.length := by
  induction vs with
  | nil => simp
  | cons v vs ih =>
    have h1 := ih fun u hu => h u (by simp [hu])
    have h2 := h v (by simp)
    rw [List.sum_cons, List.length_cons]
    have e : B * ((vs.length + 1 : Nat) : Int) = B * vs.length + B := by rw [Int.natCast_add, Int.mul_add]; simp
    rw [e]; omega
theorem rAll_ok (vs : List Int) (hl : vs.length ≤ 120) (h : ∀ v ∈ vs, -18014398509481984 ≤ v ∧ v ≤ 18014398509481984) : (rAll vs).ok := by
  unfold R4.ok
  rw [rAll_c, rAll_sm]
  have := sum_bd vs 18014398509481984 h
  omega
end Go.Proofs.YtifpnfhmemdljaaDoor
