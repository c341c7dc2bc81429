/-
  Package chunk, encoding: the walks of the state's methods and of Encode.
-/
import Derived.Test.YtifpnfhmemdljaaDoorZig
namespace Go.Proofs.YtifpnfhmemdljaaDoor
open Go.RowKit
set_option linter.unusedVariables false

/-! ### samples, and the state behind some of them -/
abbrev gS : Int × Int → List Value := fun s => [.int .i64 s.1, .int .i64 s.2]
structure CkSt where
  t : Int
  v : Int
  step : Int
  count : Nat
def CkSt.cells (s : CkSt) : Array Value := #[.int .i64 s.t, .int .i64 s.v, .int .i64 s.step, .int .i64 (s.count : Int)]
def CkSt.next (s : CkSt) (x : Int × Int) : CkSt := ⟨x.1, x.2, if 0 < s.count then x.1 - s.t else s.step, s.count + 1⟩
def CkSt.codes (s : CkSt) (x : Int × Int) : Int × Int := if s.count = 0 then x else (x.1 - s.t - s.step, x.2 - s.v)
def SmpOk (x : Int × Int) : Prop := -36028797018963968 ≤ x.1 ∧ x.1 < 36028797018963968 ∧ -36028797018963968 ≤ x.2 ∧ x.2 < 36028797018963968
/-- what a state that follows good samples is like -/
def CkSt.ok (s : CkSt) : Prop := SmpOk (s.t, s.v) ∧ 0 ≤ s.step ∧ s.step < 72057594037927936 ∧ s.count ≤ 1000
theorem CkSt.next_ok (s : CkSt) (x : Int × Int) (h : s.ok) (hx : SmpOk x) (hc : s.count < 1000) (hf : 0 < s.count → s.t < x.1) : (s.next x).ok := by
  obtain ⟨⟨a1, a2, a3, a4⟩, b1, b2, b3⟩ := h
  obtain ⟨c1, c2, c3, c4⟩ := hx
  dsimp only at a1 a2 a3 a4
  refine ⟨⟨c1, c2, c3, c4⟩, ?_, ?_, by simp [CkSt.next]; omega⟩
  · simp only [CkSt.next]; split
    · have := hf ‹_›; omega
    · exact b1
  · simp only [CkSt.next]; split
    · omega
    · exact b2
theorem CkSt.codes_bd (s : CkSt) (x : Int × Int) (h : s.ok) (hx : SmpOk x) (hf : 0 < s.count → s.t < x.1) :
    (-288230376151711744 ≤ (s.codes x).1 ∧ (s.codes x).1 < 288230376151711744) ∧ (-288230376151711744 ≤ (s.codes x).2 ∧ (s.codes x).2 < 288230376151711744) := by
  obtain ⟨⟨a1, a2, a3, a4⟩, b1, b2, b3⟩ := h
  obtain ⟨c1, c2, c3, c4⟩ := hx
  dsimp only at a1 a2 a3 a4
  unfold CkSt.codes; split
  · omega
  · dsimp only; omega

theorem ck_fault (g : Nat) (s : CkSt) (x : Int × Int) (w : World) (hk : Blk w g 55 s.cells) (hx : SmpOk x) (hf : 0 < s.count → s.t < x.1) :
    Calls Tryd.prog 19 #[.pointer (some ⟨g, 0, none⟩), .agg #[.int .i64 x.1, .int .i64 x.2]] w fun e w' => e = .returned (.int .i64 0) ∧ Below w.heap.size w w' := by
  obtain ⟨t, v, st, c⟩ := s
  obtain ⟨a, b⟩ := x
  obtain ⟨c1, c2, c3, c4⟩ := hx
  dsimp only at c1 c2 c3 c4 hf ⊢
  have k0 : w.cell? ⟨g, 0, none⟩ = some (.int .i64 t) := hk.cell 0
  have k2 : w.cell? ⟨g, 3, none⟩ = some (.int .i64 (c : Int)) := hk.cell 3
  have hg := hk.lt
  have d1 : ¬ a < -36028797018963968 := by omega
  have d2 : ¬ b < -36028797018963968 := by omega
  have HK := hid hk; clear hk
  by_cases hc : 0 < c
  · have hcz : (0 : Int) < (c : Int) := by omega
    have hft := hf hc
    clear hf
    go_enter Tryd.func19, Tryd.ntmps19
    go_wp2
    go_region
    go_wp2
    go_ret
    exact ⟨rfl, (bnew (bnil w) _).drew⟩
  · obtain rfl : c = 0 := by omega
    clear hf hc
    go_enter Tryd.func19, Tryd.ntmps19
    go_wp2
    go_region
    go_wp2
    go_ret
    exact ⟨rfl, (bnew (bnil w) _).drew⟩

theorem ck_codes (g : Nat) (s : CkSt) (x : Int × Int) (w : World) (hk : Blk w g 55 s.cells) (hs : s.ok) (hx : SmpOk x) :
    Calls Tryd.prog 20 #[.pointer (some ⟨g, 0, none⟩), .agg #[.int .i64 x.1, .int .i64 x.2]] w fun e w' => e = .returned (.tuple #[.int .i64 (s.codes x).1, .int .i64 (s.codes x).2]) ∧ Below w.heap.size w w' := by
  obtain ⟨t, v, st, c⟩ := s
  obtain ⟨a, b⟩ := x
  obtain ⟨⟨a1, a2, a3, a4⟩, b1, b2, b3⟩ := hs
  obtain ⟨c1, c2, c3, c4⟩ := hx
  dsimp only at a1 a2 a3 a4 b1 b2 b3 c1 c2 c3 c4 ⊢
  have k0 : w.cell? ⟨g, 0, none⟩ = some (.int .i64 t) := hk.cell 0
  have k1 : w.cell? ⟨g, 1, none⟩ = some (.int .i64 v) := hk.cell 1
  have k2 : w.cell? ⟨g, 2, none⟩ = some (.int .i64 st) := hk.cell 2
  have k3 : w.cell? ⟨g, 3, none⟩ = some (.int .i64 (c : Int)) := hk.cell 3
  have hg := hk.lt
  have HK := hid hk; clear hk
  by_cases hc : 0 < c
  · have hcz : ((c : Int) == 0) = false := by simp; omega
    have HE := hid (show (CkSt.mk t v st c).codes (a, b) = (a - t - st, b - v) by unfold CkSt.codes; rw [if_neg (by dsimp only; omega)])
    go_enter Tryd.func20, Tryd.ntmps20
    go_wp2
    go_quiet (fail)
    go_wp2
    go_ret2
    exact ⟨by rw [HE.out]; rfl, below_drewN (bnew (bnil w) _) _⟩
  · obtain rfl : c = 0 := by omega
    go_enter Tryd.func20, Tryd.ntmps20
    go_wp2
    all_goals (try go_quiet (fail))
    all_goals (try go_wp2)
    go_ret2
    exact ⟨rfl, below_drewN (bnew (bnil w) _) _⟩

theorem ck_next (g : Nat) (s : CkSt) (x : Int × Int) (w : World) (hk : Blk w g 55 s.cells) (hs : s.ok) (hx : SmpOk x) :
    Calls Tryd.prog 22 #[.pointer (some ⟨g, 0, none⟩), .agg #[.int .i64 x.1, .int .i64 x.2]] w fun e w' => e = .returned (.tuple #[]) ∧ Blk w' g 55 (s.next x).cells ∧ Chg (fun k => k = g) w w' := by
  obtain ⟨t, v, st, c⟩ := s
  obtain ⟨a, b⟩ := x
  obtain ⟨⟨a1, a2, a3, a4⟩, b1, b2, b3⟩ := hs
  obtain ⟨c1, c2, c3, c4⟩ := hx
  dsimp only at a1 a2 a3 a4 b1 b2 b3 c1 c2 c3 c4 ⊢
  have k0 : w.cell? ⟨g, 0, none⟩ = some (.int .i64 t) := hk.cell 0
  have k1 : w.cell? ⟨g, 1, none⟩ = some (.int .i64 v) := hk.cell 1
  have k2 : w.cell? ⟨g, 2, none⟩ = some (.int .i64 st) := hk.cell 2
  have k3 : w.cell? ⟨g, 3, none⟩ = some (.int .i64 (c : Int)) := hk.cell 3
  have f0 := hk.frozen 0
  have f1 := hk.frozen 1
  have f2 := hk.frozen 2
  have f3 := hk.frozen 3
  have hg := hk.lt
  have HK := hid hk; clear hk
  by_cases hc : 0 < c
  · have hcz : (0 : Int) < (c : Int) := by omega
    go_enter Tryd.func22, Tryd.ntmps22
    go_wp2
    all_goals (try go_region)
    all_goals (try go_wp2)
    all_goals (try go_region)
    all_goals (try go_wp2)
    go_end0
    have h := ((((HK.out.set_ 2 (.int .i64 (a - t))).set_ 0 (.int .i64 a)).set_ 1 (.int .i64 b)).set_ 3 (.int .i64 ((c : Int) + 1))).alloc (.cells #[.int .i64 a, .int .i64 b] 26)
    refine ⟨rfl, ?_, ?_⟩
    · have e : ((CkSt.mk t v st c).next (a, b)).cells = #[.int .i64 a, .int .i64 b, .int .i64 (a - t), .int .i64 ((c : Int) + 1)] := by simp [CkSt.cells, CkSt.next, hc]
      rw [e]; exact h
    · exact (((((Chg.refl (fun k => k = g) w).setCell (p := ⟨g, 2, none⟩) (fun _ => rfl) _).setCell (p := ⟨g, 0, none⟩) (fun _ => rfl) _).setCell (p := ⟨g, 1, none⟩) (fun _ => rfl) _).setCell (p := ⟨g, 3, none⟩) (fun _ => rfl) _).alloc _ |>.drew
  · obtain rfl : c = 0 := by omega
    go_enter Tryd.func22, Tryd.ntmps22
    go_wp2
    all_goals (try go_region)
    all_goals (try go_wp2)
    all_goals (try go_region)
    all_goals (try go_wp2)
    go_end0
    have h := (((HK.out.set_ 0 (.int .i64 a)).set_ 1 (.int .i64 b)).set_ 3 (.int .i64 1)).alloc (.cells #[.int .i64 a, .int .i64 b] 26)
    refine ⟨rfl, ?_, ?_⟩
    · exact h
    · exact ((((Chg.refl (fun k => k = g) w).setCell (p := ⟨g, 0, none⟩) (fun _ => rfl) _).setCell (p := ⟨g, 1, none⟩) (fun _ => rfl) _).setCell (p := ⟨g, 3, none⟩) (fun _ => rfl) _).alloc _

/-! ### Encode -/
def ckStep (x : CkSt × List Bool) (s : Int × Int) : CkSt × List Bool := (x.1.next s, (x.2 ++ zcode (x.1.codes s).1) ++ zcode (x.1.codes s).2)
def ckGo (l : List (Int × Int)) : CkSt × List Bool := l.foldl ckStep (⟨0, 0, 0, 0⟩, bitsOf 8 l.length)
def ckUpto (n : Nat) (l : List (Int × Int)) : CkSt × List Bool := l.foldl ckStep (⟨0, 0, 0, 0⟩, bitsOf 8 n)
theorem ckUpto_snoc (n : Nat) (l : List (Int × Int)) (x : Int × Int) : ckUpto n (l ++ [x]) = ckStep (ckUpto n l) x := by unfold ckUpto; rw [List.foldl_append]; rfl
theorem CkSt.ok0 : CkSt.ok ⟨0, 0, 0, 0⟩ := ⟨⟨by decide, by decide, by decide, by decide⟩, by decide, by decide, by decide⟩
/-- samples that may be: in bounds, each later than the one ahead -/
def SmpsOk (l : List (Int × Int)) : Prop := (∀ x ∈ l, SmpOk x) ∧ ∀ k x y, l[k]? = some x → l[k + 1]? = some y → x.1 < y.1
theorem ckUpto_inv (n : Nat) (l : List (Int × Int)) (h : SmpsOk l) : ∀ k, k ≤ l.length → k ≤ 1000 → (ckUpto n (l.take k)).1.ok ∧ (ckUpto n (l.take k)).1.count = k ∧ (ckUpto n (l.take k)).2.length ≤ 8 + 126 * k ∧ (∀ x, 0 < k → l[k - 1]? = some x → (ckUpto n (l.take k)).1.t = x.1) := by
  intro k
  induction k with
  | zero =>
    intro _ _
    refine ⟨CkSt.ok0, rfl, ?_, by omega⟩
    show (bitsOf 8 n).length ≤ _
    rw [bitsOf_len]; omega
  | succ k ih =>
    intro hk hk2
    obtain ⟨i1, i2, i3, i4⟩ := ih (by omega) (by omega)
    have hx : l[k]? = some l[k] := List.getElem?_eq_getElem (by omega)
    have hxo := h.1 l[k] (List.getElem_mem _)
    rw [take_next hx, ckUpto_snoc]
    generalize ckUpto n (l.take k) = s at *
    refine ⟨CkSt.next_ok _ _ i1 hxo (by omega) fun h0 => ?_, by simp [ckStep, CkSt.next, i2], ?_, ?_⟩
    · rw [i2] at h0
      have hp : l[k - 1]? = some l[k - 1] := List.getElem?_eq_getElem (by omega)
      rw [i4 _ h0 hp]
      exact h.2 (k - 1) _ _ hp (by rw [show k - 1 + 1 = k by omega]; exact hx)
    · show ((s.2 ++ _) ++ _).length ≤ _
      rw [List.length_append, List.length_append]
      have := zcode_len (s.1.codes l[k]).1
      have := zcode_len (s.1.codes l[k]).2
      omega
    · intro x _ hx'
      rw [show k + 1 - 1 = k by omega, hx] at hx'
      injection hx' with hx'
      rw [← hx']; rfl
theorem Sl.atS {w : World} {A : Option Addr} {n k : Nat} {l : List (Int × Int)} (h : Sl w 2 A n (l.flatMap gS)) (hk : k < n) :
    ∃ ad f, A = some ad ∧ l[k]? = some f ∧ w.cell? (ad.add (k * 2)) = some (.int .i64 f.1) ∧ w.cell? ⟨(ad.add (k * 2)).block, (ad.add (k * 2)).off + 1, none⟩ = some (.int .i64 f.2) := by
  obtain ⟨ad, e, hc⟩ := h.2 (by omega)
  have hl : k < l.length := by have := h.1; rw [flatMap_len gS 2 (fun _ => rfl)] at this; omega
  have hx : l[k]? = some l[k] := List.getElem?_eq_getElem hl
  exact ⟨ad, l[k], e, hx, hc (k * 2 + 0) _ (flatMap_at gS 2 (fun _ => rfl) l k 0 _ hx (by decide)), cell_next (by decide) (hc (k * 2 + 1) _ (flatMap_at gS 2 (fun _ => rfl) l k 1 _ hx (by decide)))⟩

set_option maxRecDepth 100000 in
set_option maxHeartbeats 4000000 in
theorem ck_encode (A : Option Addr) (n c : Nat) (l : List (Int × Int)) (w : World) (hn : n ≤ 120) (h : Sl w 2 A n (l.flatMap gS)) (hl : SmpsOk l) (ht : ZTab w) :
    Calls Tryd.prog 13 #[.slice A n c] w fun e w' => ∃ v, e = .returned (.tuple #[v, .int .i64 0]) ∧ Ow w w' 5 1 gB v (pack (ckGo l).2) := by
  have H := hid h; have HL := hid hl; have HT := hid ht; clear h hl ht
  have HLn := hid (show l.length = n by have := H.out.1; rw [flatMap_len gS 2 (fun _ => rfl)] at this; omega)
  have hwl := HT.out.lt
  go_enter Tryd.func13, Tryd.ntmps13
  have HP0 : Hid (PenAt ((w.alloc (.cells #[.slice none 0 0, .int .i64 0] 53)).alloc (.cells #[.int .i64 0, .int .i64 0, .int .i64 0, .int .i64 0] 55)) w.heap.size (.slice none 0 0) []) := ⟨(Blk.new w _ _).alloc _, own0 _ _ _ _⟩
  have HB0 := hid (bnew (bnew (bnil w) (.cells #[.slice none 0 0, .int .i64 0] 53)) (.cells #[.int .i64 0, .int .i64 0, .int .i64 0, .int .i64 0] 55))
  have HK0 : Hid (Blk ((w.alloc (.cells #[.slice none 0 0, .int .i64 0] 53)).alloc (.cells #[.int .i64 0, .int .i64 0, .int .i64 0, .int .i64 0] 55)) (w.heap.size + 1) 55 (CkSt.mk 0 0 0 0).cells) := by
    have := Blk.new (w.alloc (.cells #[.slice none 0 0, .int .i64 0] 53)) 55 (CkSt.mk 0 0 0 0).cells
    rwa [show (w.alloc (.cells #[.slice none 0 0, .int .i64 0] 53)).heap.size = w.heap.size + 1 by simp] at this
  go_wp2_with fail
  refine (pen_put _ w.heap.size (.slice none 0 0) [] 8 n (by omega) (by omega) (by simp) HP0.out).mono ?_
  rintro e w1 ⟨rfl, v1, hp1, hc1⟩
  have HP1 := hid hp1
  obtain ⟨hb1, hr1⟩ := hc1.blw2 HB0.out (Nat.le_refl _) (fun k hk => by simp [Value.ownBlock] at hk)
  have HB1 := hid hb1; have HR1 := hid hr1
  have HK1 := hid (hc1.keeps HP0.out HK0.out (by omega) (by decide))
  clear hp1 hc1 hb1 hr1
  go_wp2_with fail
  go_loopw [19] (fun i wr => ∃ k : Nat, ∃ v', k ≤ n ∧ i = .int .i64 (k : Int) ∧ PenAt wr w.heap.size v' (ckUpto n (l.take k)).2 ∧ Blk wr (w.heap.size + 1) 55 (ckUpto n (l.take k)).1.cells ∧ Below w.heap.size w wr ∧ RowGe w.heap.size v') (fun i _ => n - (intOf i).toNat)
  case atStart => exact ⟨0, v1, by omega, rfl, HP1.out, HK1.out, HB1.out, HR1.out⟩
  case round =>
    obtain ⟨k, v', hk, rfl, hp, hkk, hb, hr⟩ := hrel
    have HP := hid hp; have HK := hid hkk; have HB := hid hb; have HR := hid hr; clear hp hkk hb hr
    by_cases hlt : k < n
    · obtain ⟨ad, x, rfl, hx, c0, c1⟩ := (H.out.below HB.out).atS hlt
      have hinv := ckUpto_inv n l HL.out k (by have := HLn.out; omega) (by omega)
      have HT2 := hid (show ckUpto n (l.take (k + 1)) = ckStep (ckUpto n (l.take k)) x by rw [take_next hx, ckUpto_snoc])
      have HXO := hid (HL.out.1 x (List.mem_of_getElem? hx))
      have HXF : Hid (0 < (ckUpto n (l.take k)).1.count → (ckUpto n (l.take k)).1.t < x.1) := fun h0 => by
        have h0' : 0 < k := by rw [← hinv.2.1]; exact h0
        have hkl : k - 1 < l.length := by have := HLn.out; omega
        have hp : l[k - 1]? = some l[k - 1] := List.getElem?_eq_getElem hkl
        rw [hinv.2.2.2 _ h0' hp]
        exact HL.out.2 (k - 1) _ _ hp (by rw [show k - 1 + 1 = k by omega]; exact hx)
      have HSO := hid hinv.1
      have hbl := hinv.2.2.1
      clear hinv
      have HX := hid hx; clear hx
      generalize ckUpto n (l.take k) = s at *
      obtain ⟨st, bs⟩ := s
      dsimp only at hbl HXF HSO HP HK
      obtain ⟨⟨d0, d1⟩, d2, d3⟩ := st.codes_bd x HSO.out HXO.out HXF.out
      have hcb := World.block_lt_of_cell? wr _ c0
      obtain ⟨xt, xv⟩ := x
      dsimp only at c0 c1
      go_wp2_with fail
      refine (ck_fault (w.heap.size + 1) st (xt, xv) _ (HK.out.alloc _) HXO.out HXF.out).mono ?_
      rintro e w2 ⟨rfl, hb2⟩
      have HB2 := hid hb2; clear hb2
      have hs2 := HB.out.size
      have hka : w.heap.size + 1 < wr.heap.size := HK.out.lt
      have HBa := hid (bgo (bnew (bnil wr) _) HB2.out)
      have HPa : Hid (PenAt w2 w.heap.size v' bs) := PenM.step HP.out HBa.out
      have HKa := hid (HK.out.below' HBa.out)
      have kc0 : w2.cell? ⟨wr.heap.size, 0, none⟩ = some (.int .i64 xt) := cell_below HB2.out ((Blk.new wr _ _).cell 0)
      have kc1 : w2.cell? ⟨wr.heap.size, 1, none⟩ = some (.int .i64 xv) := cell_below HB2.out ((Blk.new wr _ _).cell 1)
      have hsz2 := HBa.out.size
      have hcb2 := World.block_lt_of_cell? w2 _ kc0
      go_wp2_with fail
      refine (ck_codes (w.heap.size + 1) st (xt, xv) w2 HKa.out HSO.out HXO.out).mono ?_
      rintro e w3 ⟨rfl, hb3⟩
      have HB3 := hid hb3; clear hb3
      have HPb : Hid (PenAt w3 w.heap.size v' bs) := PenM.step HPa.out HB3.out
      have HKb := hid (HKa.out.below' HB3.out)
      have HXB : Hid (Blk w3 wr.heap.size 26 #[.int .i64 xt, .int .i64 xv]) := ((Blk.new wr _ _).below' HB2.out).below' HB3.out
      have HBw := hid (bgo (bgo HB.out HBa.out) HB3.out)
      have HTb := hid (HT.out.below HBw.out)
      generalize hcd : st.codes (xt, xv) = cd at *
      have HCD := hid hcd; clear hcd
      obtain ⟨ca, cb⟩ := cd
      dsimp only at d0 d1 d2 d3
      clear kc0 kc1 hcb2
      go_wp2_with fail
      refine (zig_put w.heap.size v' bs ca w3 d0 d1 (by omega) HPb.out HTb.out (off0 HT.out (Nat.le_refl _) HR.out)).mono ?_
      rintro e w4 ⟨rfl, v4, hp4, hc4⟩
      have HP4 := hid hp4
      obtain ⟨hb4, hr4⟩ := hc4.blw2 HBw.out (Nat.le_refl _) HR.out
      have HB4 := hid hb4; have HR4 := hid hr4
      have HK4 := hid (hc4.keeps HPb.out HKb.out (by omega) (by decide))
      have HX4 := hid (hc4.keeps HPb.out HXB.out (by omega) (by decide))
      clear hp4 hc4 hb4 hr4
      have HT4 := hid (HT.out.below HB4.out)
      have hzl := zcode_len ca
      have HZL := hid (show (bs ++ zcode ca).length = bs.length + (zcode ca).length by rw [List.length_append])
      go_wp2_with fail
      refine (zig_put w.heap.size v4 (bs ++ zcode ca) cb w4 d2 d3 (by rw [HZL.out]; omega) HP4.out HT4.out (off0 HT.out (Nat.le_refl _) HR4.out)).mono ?_
      rintro e w5 ⟨rfl, v5, hp5, hc5⟩
      have HP5 := hid hp5
      obtain ⟨hb5, hr5⟩ := hc5.blw2 HB4.out (Nat.le_refl _) HR4.out
      have HB5 := hid hb5; have HR5 := hid hr5
      have HK5 := hid (hc5.keeps HP4.out HK4.out (by omega) (by decide))
      have HX5 := hid (hc5.keeps HP4.out HX4.out (by omega) (by decide))
      clear hp5 hc5 hb5 hr5
      have kc0 : w5.cell? ⟨wr.heap.size, 0, none⟩ = some (.int .i64 xt) := HX5.out.cell 0
      have kc1 : w5.cell? ⟨wr.heap.size, 1, none⟩ = some (.int .i64 xv) := HX5.out.cell 1
      go_wp2_with fail
      refine (ck_next (w.heap.size + 1) st (xt, xv) w5 HK5.out HSO.out HXO.out).mono ?_
      rintro e w6 ⟨rfl, hk6, hc6⟩
      have HK6 := hid hk6
      have HP6 : Hid (PenAt w6 w.heap.size v5 ((bs ++ zcode ca) ++ zcode cb)) := PenM.chg1 HP5.out hc6 HK5.out (by omega) (by decide)
      have HB6 := hid (HB5.out.trans (hc6.below (B := w.heap.size) (fun k hk => by omega) HB5.out.size))
      clear hk6 hc6 kc0 kc1
      go_wp2
      go_roundw
      case rel => exact ⟨k + 1, v5, by omega, by go_num, by rw [HT2.out]; show PenAt w6 w.heap.size v5 ((bs ++ zcode (st.codes (xt, xv)).1) ++ zcode (st.codes (xt, xv)).2); rw [HCD.out]; exact HP6.out, by rw [HT2.out]; exact HK6.out, HB6.out, HR5.out⟩
      case measure => simp [intOf]; omega
    · obtain rfl : k = n := by omega
      obtain ⟨c0, c1, f0, f1⟩ := PenM.cells HP.out
      have E := hid (show l.take k = l from List.take_of_length_le (by rw [HLn.out]; exact Nat.le_refl _))
      go_wp2_with fail
      refine (pen_bytes w.heap.size v' wr c0).mono ?_
      rintro e w2 ⟨rfl, rfl⟩
      go_wp2
      go_ret2
      refine ⟨v', rfl, ?_, HB.out⟩
      have h := HP.out.own
      rw [E.out] at h
      unfold ckGo
      rw [show l.length = k from HLn.out]
      exact own_ge h HR.out
end Go.Proofs.YtifpnfhmemdljaaDoor
