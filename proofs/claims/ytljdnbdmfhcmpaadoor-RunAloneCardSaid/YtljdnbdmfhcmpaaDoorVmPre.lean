/-
  What the laws of the machine share: padded words, arguments.
-/
import Derived.Test.YtljdnbdmfhcmpaaDoorVmCode
import Derived.Test.YtljdnbdmfhcmpaaDoorVmSure
import Derived.Deep.CutBlock
import Derived.Deep.DeepCutAuto
import Derived.Deep.OwnRows
namespace Go.Proofs.YtljdnbdmfhcmpaaDoor
open Go.RowKit
set_option linter.unusedVariables false

/-- six words, of which the first k are laid -/
def padk (l : List Int) (k : Nat) : List Int := l.take k ++ List.replicate (6 - k) 0
theorem padk_zero (l : List Int) : padk l 0 = List.replicate 6 0 := by unfold padk; simp
theorem padk_len (l : List Int) (k : Nat) (h : k ≤ l.length) (h6 : k ≤ 6) : (padk l k).length = 6 := by unfold padk; simp; omega
theorem padk_step (l : List Int) (k : Nat) (x : Int) (hx : l[k]? = some x) (h6 : k < 6) : padk l (k + 1) = (padk l k).set k x := by
  have hk := (List.getElem?_eq_some_iff.1 hx).1
  unfold padk
  rw [take_next hx, show 6 - k = (6 - (k + 1)) + 1 by omega, List.replicate_succ, List.set_append_right _ _ (by simp; omega)]
  rw [List.length_take, show k - min k l.length = 0 by omega, List.set_cons_zero, List.append_assoc, List.singleton_append]
def md9 (x : Int) : Int := x % 9
theorem ints_ow (w : World) : Ow w (w.alloc (.cells #[.int .i64 0, .int .i64 0, .int .i64 0, .int .i64 0, .int .i64 0, .int .i64 0] 3)) 3 1 gI (.slice (some ⟨w.heap.size, 0, none⟩) 6 6) (List.replicate 6 0) :=
  ⟨⟨rfl, .inr ⟨w.heap.size, 6, _, rfl, Nat.le_refl _, Blk.new w _ _, Nat.le_refl _, by simp [maxLen], rfl, rfl⟩⟩, bnew (bnil w) _⟩
/-- a code of at most 200 that fits, in memory -/
structure CodeAt (w : World) (A : Option Addr) (n : Nat) (code : List Op5) : Prop where
  sl : Sl w 5 A n (code.flatMap gO)
  sh : ∀ o ∈ code, OpSh n o
theorem CodeAt.below {w w' : World} {A : Option Addr} {n : Nat} {code : List Op5} (h : CodeAt w A n code) (hb : Below w.heap.size w w') : CodeAt w' A n code := ⟨h.sl.below hb, h.sh⟩
theorem CodeAt.of {w w' : World} {A : Option Addr} {c N : Nat} {ls : List Op5} (h : Ow w w' 35 5 gO (.slice A (codeOf ls N).length c) (codeOf ls N)) : CodeAt w' A (codeOf ls N).length (codeOf ls N) := ⟨h.sl, codeOf_sh ls N⟩
theorem vres_eq (code : List Op5) (args ws : List Int) (L : Nat) : vres code args ws L = vrun code L (vbegin code.length args, ws) := rfl
theorem mk6 (w : World) : (Instr.makeSlice 23 (.int .i64 6) (.int .i64 6)).run Tryd.prog w = .ok (.slice (some ⟨w.heap.size, 0, none⟩) 6 6) (w.alloc (.cells #[.int .i64 0, .int .i64 0, .int .i64 0, .int .i64 0, .int .i64 0, .int .i64 0] 3)) := by
  have h := run_make_row' (P := Tryd.prog) 23 3 (.int .i64 0) 8 Tryd.underlying23 (by kernel_rfl) rfl .i64 .i64 6 (by omega) (by omega) w
  rw [show madeCells #[Value.int .i64 0] 6 = #[.int .i64 0, .int .i64 0, .int .i64 0, .int .i64 0, .int .i64 0, .int .i64 0] from by apply Array.ext'; rw [Go.toList_madeCells_one]; rfl] at h
  exact h
theorem Ow.cellI {w0 w : World} {e : TypeId} {b n c i : Nat} {l : List Int} {x : Int} (h : Ow w0 w e 1 gI (.slice (some ⟨b, 0, none⟩) n c) l) (hi : l[i]? = some x) : w.cell? ⟨b, i, none⟩ = some (.int .i64 x) ∧ w.frozen? ⟨b, i, none⟩ = false := by
  have hl : i < l.length := (List.getElem?_eq_some_iff.1 hi).1
  obtain ⟨b', cur, hA, rfl, hb, hk, hs, hc, ht⟩ := h.row (by omega)
  injection hA with hA; injection hA with hA; subst hA
  refine ⟨?_, hk.frozen i⟩
  have h1 := ints_at hi
  rw [hk.cell i, ← Array.getElem?_toList]
  rw [ints, ← ht, List.getElem?_take, if_pos hl] at h1
  exact h1
theorem Ow.setI {w0 w : World} {e : TypeId} {b n c i : Nat} {l : List Int} (h : Ow w0 w e 1 gI (.slice (some ⟨b, 0, none⟩) n c) l) (hi : i < l.length) (x : Int) : Ow w0 (w.setCell ⟨b, i, none⟩ (.int .i64 x)) e 1 gI (.slice (some ⟨b, 0, none⟩) n c) (l.set i x) := by
  obtain ⟨b', cur, hA, hn, hb, _⟩ := h.row (by omega)
  injection hA with hA; injection hA with hA; subst hA
  subst hn
  have h1 := own_set (f := fun x => .int .i64 x) h.own hi x
  exact ⟨by rw [List.length_set]; exact h1, h.below.setCell hb _⟩
/-! ### what a run comes to -/
theorem vdo_err (o : Op5) (t : Th) (ws : List Int) : (vdo o t ws).1.err = t.err ∨ (vdo o t ws).1.err = 2 ∨ (vdo o t ws).1.err = 8 := by
  unfold vdo
  simp only
  iterate 9 (split; exact .inl rfl)
  unfold vother
  simp only
  repeat' split
  all_goals first
    | exact .inl rfl
    | exact .inr (.inl rfl)
    | exact .inr (.inr rfl)
theorem vstep_err (code : List Op5) (t : Th) (ws : List Int) : (vstep code t ws).1.err = t.err ∨ (vstep code t ws).1.err = 2 ∨ (vstep code t ws).1.err = 8 := by
  unfold vstep
  split
  · exact .inl rfl
  · split
    · exact .inl rfl
    · exact vdo_err _ _ _
theorem vrun_err (code : List Op5) : ∀ (n : Nat) (s : Th × List Int), (s.1.err = 0 ∨ s.1.err = 2 ∨ s.1.err = 8) → ((vrun code n s).1.err = 0 ∨ (vrun code n s).1.err = 2 ∨ (vrun code n s).1.err = 8)
  | 0, s, h => h
  | n + 1, s, h => by
    unfold vrun
    split
    · exact h
    · refine vrun_err code n _ ?_
      rcases vstep_err code s.1 s.2 with e | e | e
      · rw [e]; exact h
      · exact .inr (.inl e)
      · exact .inr (.inr e)
theorem vres_err (code : List Op5) (args ws : List Int) (L : Nat) : (vres code args ws L).1.err = 0 ∨ (vres code args ws L).1.err = 2 ∨ (vres code args ws L).1.err = 8 := vrun_err code L _ (.inl rfl)
/-- a longer run -/
theorem vres_more (code : List Op5) (args ws : List Int) (X Y : Nat) :
    (∃ u, (vres code args ws (X + Y)).1.told = (vres code args ws X).1.told ++ u) ∧
    vcount code X (vbegin code.length args, ws) ≤ X ∧ vcount code (X + Y) (vbegin code.length args, ws) ≤ X + Y ∧ vcount code X (vbegin code.length args, ws) ≤ vcount code (X + Y) (vbegin code.length args, ws) ∧
    ((vres code args ws X).1.over = false → verr (vres code args ws X).1 = 11 ∧ vcount code X (vbegin code.length args, ws) = X) ∧
    ((vres code args ws X).1.over = true → verr (vres code args ws X).1 ≠ 11 ∧ vres code args ws (X + Y) = vres code args ws X ∧ vcount code (X + Y) (vbegin code.length args, ws) = vcount code X (vbegin code.length args, ws)) := by
  obtain ⟨a1, a2⟩ := vrun_add code X Y (vbegin code.length args, ws)
  obtain ⟨b1, b2⟩ := vcount_le code X (vbegin code.length args, ws)
  refine ⟨?_, b1, (vcount_le code (X + Y) _).1, by rw [a2]; omega, fun h => ⟨by unfold verr; rw [if_neg (by rw [h]; decide)], b2 h⟩, fun h => ⟨?_, ?_, ?_⟩⟩
  · obtain ⟨u, hu⟩ := vrun_told code Y (vrun code X (vbegin code.length args, ws))
    exact ⟨u, by unfold vres; rw [a1, hu]⟩
  · unfold verr; rw [if_pos h]
    rcases vres_err code args ws X with e | e | e <;> rw [e] <;> decide
  · unfold vres; rw [a1]; exact (vrun_over code Y _ h).1
  · have := (vrun_over code Y (vrun code X (vbegin code.length args, ws)) h).2
    rw [a2, this]; rfl
/-- the run, its outcome under letters -/
theorem vm_runL (S : Th × List Int) (N m q : Nat) (er : Int) {A A2 A3 : Option Addr} {n c i c2 j c3 L : Nat} {code : List Op5} {args ws : List Int} {w : World} (hS : Hid (vres code args ws L = S)) (hN : Hid (vcount code L (vbegin code.length args, ws) = N)) (hm : Hid (S.1.told.length = m)) (hq : Hid (S.2.length = q)) (he : Hid (verr S.1 = er))
    (hn : n ≤ 200) (hi : i ≤ 8) (hj : j ≤ 200) (hL : L ≤ 6000) (hT : STab w) (hC : CodeAt w A n code) (ha : Sl w 1 A2 i (ints args)) (hw : Sl w 1 A3 j (ints ws)) :
    Calls Tryd.prog 13 #[.slice A n c, .slice A2 i c2, .slice A3 j c3, .int .i64 (L : Int)] w fun e w' => ∃ B b D d, e = .returned (.tuple #[.slice B m b, .slice D q d, .int .i64 (N : Int), .int .i64 er]) ∧ m ≤ b ∧ b ≤ 9223372036854775807 ∧ q ≤ d ∧ d ≤ 9223372036854775807 ∧
      Hid (Ow w w' 3 1 gI (.slice B m b) S.1.told) ∧ Hid (Ow w w' 3 1 gI (.slice D q d) S.2) := by
  refine (vm_run A A2 A3 n c i c2 j c3 L code args ws w hn hi hj hL hT hC.sh hC.sl ha hw).mono ?_
  rintro e w' ⟨tv, wv, rfl, h1, h2⟩
  rw [hS.out] at h1 h2
  obtain ⟨B, b, rfl, h3, h4⟩ := h1.form
  obtain ⟨D, d, rfl, h5, h6⟩ := h2.form
  rw [hS.out, hN.out, he.out]
  rw [hm.out] at h1 h3 ⊢
  rw [hq.out] at h2 h5 ⊢
  exact ⟨B, b, D, d, rfl, h3, h4, h5, h6, hid h1, hid h2⟩
end Go.Proofs.YtljdnbdmfhcmpaaDoor
