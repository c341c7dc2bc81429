/-
  Package zig: the walks of fit and Put; the table of classes stays where it is.
-/
import Derived.Test.YtifpnfhmemdljaaDoorPen
import Derived.Test.YtifpnfhmemdljaaDoorFold
namespace Go.Proofs.YtifpnfhmemdljaaDoor
open Go.RowKit
set_option linter.unusedVariables false

/-! ### the table of classes -/
def ztab : Array Value := #[.int .i64 0, .int .i64 1, .int .i64 0, .int .i64 2, .int .i64 2, .int .i64 6, .int .i64 6, .int .i64 3, .int .i64 12, .int .i64 14, .int .i64 4, .int .i64 24, .int .i64 15, .int .i64 4, .int .i64 59]
def ZTab (w : World) : Prop := ∃ t fr, w.heap[0]? = some (.cells ztab t fr)
theorem ZTab.lt {w : World} (h : ZTab w) : 0 < w.heap.size := by obtain ⟨t, fr, h⟩ := h; exact (Array.getElem?_eq_some_iff.1 h).1
theorem ZTab.below {w w' : World} (h : ZTab w) (hb : Below w.heap.size w w') : ZTab w' := by
  have hl := h.lt
  obtain ⟨t, fr, h⟩ := h
  exact ⟨t, fr, (hb.block _ hl).trans h⟩
theorem ZTab.chg {M : Nat → Prop} {w w' : World} (h : ZTab w) (hc : Chg M w w') (hM : ¬ M 0) : ZTab w' := by
  have hl := h.lt
  obtain ⟨t, fr, h⟩ := h
  exact ⟨t, fr, (hc.block _ hl hM).trans h⟩
theorem ZTab.cell {w : World} (h : ZTab w) (i : Nat) : w.cell? ⟨0, i, none⟩ = ztab[i]? := by
  obtain ⟨t, fr, h⟩ := h
  exact cell_of_row w _ i ztab t fr h
theorem zix0 (w : World) : (Instr.index 86 (.agg ztab) (.int .i64 0)).run Tryd.prog w = .ok (.agg #[.int .i64 0, .int .i64 1, .int .i64 0]) w := by kernel_rfl
theorem zix1 (w : World) : (Instr.index 86 (.agg ztab) (.int .i64 1)).run Tryd.prog w = .ok (.agg #[.int .i64 2, .int .i64 2, .int .i64 6]) w := by kernel_rfl
theorem zix2 (w : World) : (Instr.index 86 (.agg ztab) (.int .i64 2)).run Tryd.prog w = .ok (.agg #[.int .i64 6, .int .i64 3, .int .i64 12]) w := by kernel_rfl
theorem zix3 (w : World) : (Instr.index 86 (.agg ztab) (.int .i64 3)).run Tryd.prog w = .ok (.agg #[.int .i64 14, .int .i64 4, .int .i64 24]) w := by kernel_rfl
theorem zix4 (w : World) : (Instr.index 86 (.agg ztab) (.int .i64 4)).run Tryd.prog w = .ok (.agg #[.int .i64 15, .int .i64 4, .int .i64 59]) w := by kernel_rfl

/-- the class of a folded number: its head, the head's bits, the bits behind it -/
def zcls (n : Nat) : Nat × Nat × Nat := if n = 0 then (0, 1, 0) else if n < 64 then (2, 2, 6) else if n < 4096 then (6, 3, 12) else if n < 16777216 then (14, 4, 24) else (15, 4, 59)

theorem zfit_end {w wr : World} {a b c : Value} {o : Obj} (hk : Blk wr w.heap.size 71 #[.int .i64 0, .int .i64 0, .int .i64 0]) (hb : Below w.heap.size w wr) :
    let W := ((((wr.setCell ⟨w.heap.size, 0, none⟩ a).setCell ⟨w.heap.size, 1, none⟩ b).setCell ⟨w.heap.size, 2, none⟩ c).alloc o)
    W.cell? ⟨w.heap.size, 0, none⟩ = some a ∧ W.cell? ⟨w.heap.size, 1, none⟩ = some b ∧ W.cell? ⟨w.heap.size, 2, none⟩ = some c ∧ Below w.heap.size w W := by
  have h := (((hk.set_ 0 a).set_ 1 b).set_ 2 c).alloc o
  exact ⟨h.cell 0, h.cell 1, h.cell 2, bnew (((hb.setCell (p := ⟨w.heap.size, 0, none⟩) (Nat.le_refl _) a).setCell (p := ⟨w.heap.size, 1, none⟩) (Nat.le_refl _) b).setCell (p := ⟨w.heap.size, 2, none⟩) (Nat.le_refl _) c) o⟩
set_option maxRecDepth 100000 in
set_option maxHeartbeats 2000000 in
theorem zig_fit (n : Nat) (w : World) (hn : n < 576460752303423488) (ht : ZTab w) :
    Calls Tryd.prog 29 #[.int .i64 (n : Int)] w fun e w' => e = .returned (.agg #[.int .i64 ((zcls n).1 : Int), .int .i64 ((zcls n).2.1 : Int), .int .i64 ((zcls n).2.2 : Int)]) ∧ Below w.heap.size w w' := by
  have HT := hid ht; clear ht
  obtain ⟨tt, fr, hg⟩ := HT.out
  have z0 := zix0; have z1 := zix1; have z2 := zix2; have z3 := zix3; have z4 := zix4
  have hgl := HT.out.lt
  have hg1 : (w.alloc (.cells #[.int .i64 0, .int .i64 0, .int .i64 0] 71)).heap[0]? = some (.cells ztab tt fr) := (Below.heap_alloc _ _ _ hgl).trans hg
  have HG := hid hg1; clear hg hg1
  go_enter Tryd.func29, Tryd.ntmps29
  go_wp2_with (refine wpList_load_row rfl 86 _ rfl 0 rfl tt ztab fr _ HG.out Tryd.underlying86 rfl (by kernel_rfl) ?_)
  clear HG
  go_loopw [6] (fun i wr => (i = .int .i64 0 ∨ i = .int .i64 1 ∧ 1 ≤ n ∨ i = .int .i64 2 ∧ 64 ≤ n ∨ i = .int .i64 3 ∧ 4096 ≤ n ∨ i = .int .i64 4 ∧ 16777216 ≤ n) ∧ Below w.heap.size w wr ∧ Blk wr w.heap.size 71 #[.int .i64 0, .int .i64 0, .int .i64 0]) (fun i _ => 5 - (intOf i).toNat)
  case atStart => exact ⟨.inl rfl, bnew (bnil w) _, Blk.new w _ _⟩
  case round =>
    obtain ⟨hi, hb, hk⟩ := hrel
    have HB := hid hb; have HK := hid hk; clear hb hk
    have k0 : wr.cell? ⟨w.heap.size, 0, none⟩ = some (.int .i64 0) := HK.out.cell 0
    have k1 : wr.cell? ⟨w.heap.size, 1, none⟩ = some (.int .i64 0) := HK.out.cell 1
    have k2 : wr.cell? ⟨w.heap.size, 2, none⟩ = some (.int .i64 0) := HK.out.cell 2
    have f0 := HK.out.frozen 0
    have f1 := HK.out.frozen 1
    have f2 := HK.out.frozen 2
    have hlt := HK.out.lt
    rcases hi with rfl | ⟨rfl, hi⟩ | ⟨rfl, hi⟩ | ⟨rfl, hi⟩ | ⟨rfl, hi⟩
    · by_cases hc : n = 0
      · have e : ((n : Int) == 0) = true := by simp; omega
        go_wp2
        obtain ⟨q0, q1, q2, hbE⟩ := zfit_end (a := .int .i64 0) (b := .int .i64 1) (c := .int .i64 0) (o := .cells #[.int .i64 0, .int .i64 1, .int .i64 0] 71) HK.out HB.out
        refine bodyPost_ret (v := .agg #[.int .i64 0, .int .i64 1, .int .i64 0]) (by simp [results, Tryd.results29, go_sem, q0, q1, q2]) rfl ⟨?_, hbE⟩
        rw [show zcls n = (0, 1, 0) by unfold zcls; rw [if_pos hc]]; rfl
      · have e : ((n : Int) == 0) = false := by simp; omega
        go_wp2
        go_roundw
        case rel => exact ⟨.inr (.inl ⟨rfl, by omega⟩), bnew HB.out _, HK.out.alloc _⟩
        case measure => simp [intOf]
    · by_cases hc : n < 64
      · have e : (((n : Int) / 64) == 0) = true := by simp; omega
        go_wp2
        obtain ⟨q0, q1, q2, hbE⟩ := zfit_end (a := .int .i64 2) (b := .int .i64 2) (c := .int .i64 6) (o := .cells #[.int .i64 2, .int .i64 2, .int .i64 6] 71) HK.out HB.out
        refine bodyPost_ret (v := .agg #[.int .i64 2, .int .i64 2, .int .i64 6]) (by simp [results, Tryd.results29, go_sem, q0, q1, q2]) rfl ⟨?_, hbE⟩
        rw [show zcls n = (2, 2, 6) by unfold zcls; rw [if_neg (by omega), if_pos hc]]; rfl
      · have e : (((n : Int) / 64) == 0) = false := by simp; omega
        go_wp2
        go_roundw
        case rel => exact ⟨.inr (.inr (.inl ⟨rfl, by omega⟩)), bnew HB.out _, HK.out.alloc _⟩
        case measure => simp [intOf]
    · by_cases hc : n < 4096
      · have e : (((n : Int) / 4096) == 0) = true := by simp; omega
        go_wp2
        obtain ⟨q0, q1, q2, hbE⟩ := zfit_end (a := .int .i64 6) (b := .int .i64 3) (c := .int .i64 12) (o := .cells #[.int .i64 6, .int .i64 3, .int .i64 12] 71) HK.out HB.out
        refine bodyPost_ret (v := .agg #[.int .i64 6, .int .i64 3, .int .i64 12]) (by simp [results, Tryd.results29, go_sem, q0, q1, q2]) rfl ⟨?_, hbE⟩
        rw [show zcls n = (6, 3, 12) by unfold zcls; rw [if_neg (by omega), if_neg (by omega), if_pos hc]]; rfl
      · have e : (((n : Int) / 4096) == 0) = false := by simp; omega
        go_wp2
        go_roundw
        case rel => exact ⟨.inr (.inr (.inr (.inl ⟨rfl, by omega⟩))), bnew HB.out _, HK.out.alloc _⟩
        case measure => simp [intOf]
    · by_cases hc : n < 16777216
      · have e : (((n : Int) / 16777216) == 0) = true := by simp; omega
        go_wp2
        obtain ⟨q0, q1, q2, hbE⟩ := zfit_end (a := .int .i64 14) (b := .int .i64 4) (c := .int .i64 24) (o := .cells #[.int .i64 14, .int .i64 4, .int .i64 24] 71) HK.out HB.out
        refine bodyPost_ret (v := .agg #[.int .i64 14, .int .i64 4, .int .i64 24]) (by simp [results, Tryd.results29, go_sem, q0, q1, q2]) rfl ⟨?_, hbE⟩
        rw [show zcls n = (14, 4, 24) by unfold zcls; rw [if_neg (by omega), if_neg (by omega), if_neg (by omega), if_pos hc]]; rfl
      · have e : (((n : Int) / 16777216) == 0) = false := by simp; omega
        go_wp2
        go_roundw
        case rel => exact ⟨.inr (.inr (.inr (.inr ⟨rfl, by omega⟩))), bnew HB.out _, HK.out.alloc _⟩
        case measure => simp [intOf]
    · have e : (((n : Int) / 576460752303423488) == 0) = true := by simp; omega
      go_wp2
      obtain ⟨q0, q1, q2, hbE⟩ := zfit_end (a := .int .i64 15) (b := .int .i64 4) (c := .int .i64 59) (o := .cells #[.int .i64 15, .int .i64 4, .int .i64 59] 71) HK.out HB.out
      refine bodyPost_ret (v := .agg #[.int .i64 15, .int .i64 4, .int .i64 59]) (by simp [results, Tryd.results29, go_sem, q0, q1, q2]) rfl ⟨?_, hbE⟩
      rw [show zcls n = (15, 4, 59) by unfold zcls; rw [if_neg (by omega), if_neg (by omega), if_neg (by omega), if_neg (by omega)]]; rfl

/-- the bits of a number's code -/
def zcode (n : Int) : List Bool := bitsOf (zcls (zfold n).toNat).2.1 (zcls (zfold n).toNat).1 ++ bitsOf (zcls (zfold n).toNat).2.2 (zfold n).toNat
def Off0 (g : Nat) (v : Value) : Prop := g ≠ 0 ∧ v.ownBlock ≠ some 0
theorem PenCh.ztab {g : Nat} {w w' : World} {v v' : Value} (h : PenCh g w v w' v') (ht : ZTab w) (ho : Off0 g v) : ZTab w' ∧ Off0 g v' :=
  ⟨ht.chg h.chg (by rintro (e | e); exact ho.1 e.symm; exact ho.2 e), ho.1, fun e => by
    rcases h.row _ e with h1 | h1
    · exact ho.2 h1
    · have := ht.lt; omega⟩
theorem zcls_bd (n : Nat) : (zcls n).2.1 ≤ 4 ∧ (zcls n).2.2 ≤ 59 ∧ (zcls n).1 < 16 := by
  unfold zcls
  split
  · decide
  · split
    · decide
    · split
      · decide
      · split <;> decide
theorem zcode_len (n : Int) : (zcode n).length ≤ 63 := by
  have := zcls_bd (zfold n).toNat
  unfold zcode
  rw [List.length_append, bitsOf_len, bitsOf_len]; omega
set_option maxRecDepth 100000 in
set_option maxHeartbeats 2000000 in
theorem zig_put (g : Nat) (v : Value) (bs : List Bool) (n : Int) (w : World) (h0 : -288230376151711744 ≤ n) (h1 : n < 288230376151711744) (hb : bs.length < 900000000) (hp : PenAt w g v bs) (ht : ZTab w) (ho : Off0 g v) :
    Calls Tryd.prog 21 #[.pointer (some ⟨g, 0, none⟩), .int .i64 n] w fun e w' => e = .returned (.tuple #[]) ∧ ∃ v', PenAt w' g v' (bs ++ zcode n) ∧ PenCh g w v w' v' := by
  have HP := hid hp; have HT := hid ht; have HO := hid ho; clear hp ht ho
  obtain ⟨x0, x1⟩ := zfold_bd n h0 h1
  obtain ⟨x, hx⟩ : ∃ x : Nat, zfold n = (x : Int) := ⟨(zfold n).toNat, by omega⟩
  have HX := hid hx; rw [hx] at x0 x1; clear hx
  go_enter Tryd.func21, Tryd.ntmps21
  go_wp2_with fail
  refine (fold_any n w h0 h1).mono ?_
  rintro e w ⟨rfl, rfl⟩
  rw [HX.out]
  go_wp2_with fail
  refine (zig_fit x w (by omega) HT.out).mono ?_
  rintro e w1 ⟨rfl, hb1⟩
  have HB1 := hid hb1; clear hb1
  have hz := zcls_bd x
  obtain ⟨hz1, hz2, hz3⟩ := hz
  have HC := hid (show zcode n = bitsOf (zcls x).2.1 (zcls x).1 ++ bitsOf (zcls x).2.2 x by unfold zcode; rw [HX.out]; rfl)
  generalize zcls x = c at *
  obtain ⟨c1, c2, c3⟩ := c
  dsimp only at hz1 hz2 hz3 HC
  have HP1 : Hid (PenAt (w1.alloc (.cells #[.int .i64 (c1 : Int), .int .i64 (c2 : Int), .int .i64 (c3 : Int)] 71)) g v bs) := PenM.step HP.out (bnew HB1.out _)
  have hx63 : x < 9223372036854775808 := by omega
  have hcb : w1.heap.size < (w1.alloc (.cells #[.int .i64 (c1 : Int), .int .i64 (c2 : Int), .int .i64 (c3 : Int)] 71)).heap.size := by simp
  have HK : Hid (Blk (w1.alloc (.cells #[.int .i64 (c1 : Int), .int .i64 (c2 : Int), .int .i64 (c3 : Int)] 71)) w1.heap.size 71 #[.int .i64 (c1 : Int), .int .i64 (c2 : Int), .int .i64 (c3 : Int)]) := Blk.new w1 _ _
  go_wp2_with fail
  refine (pen_put _ g v bs c2 c1 (by omega) (by omega) (by omega) HP1.out).mono ?_
  rintro e w2 ⟨rfl, v2, hp2, hc2⟩
  have HP2 := hid hp2; have HC2 := hid hc2; clear hp2 hc2
  have hgl : g < w.heap.size := HP.out.blk.lt
  have hs1 := HB1.out.size
  have HK2 : Hid (Blk w2 w1.heap.size 71 #[.int .i64 (c1 : Int), .int .i64 (c2 : Int), .int .i64 (c3 : Int)]) := HC2.out.chg.blk HK.out (by
    rintro (e | e)
    · omega
    · exact own_ne_blk HP1.out.own HK.out (by decide) e)
  have k0 : w2.cell? ⟨w1.heap.size, 0, none⟩ = some (.int .i64 (c1 : Int)) := HK2.out.cell 0
  have k1 : w2.cell? ⟨w1.heap.size, 1, none⟩ = some (.int .i64 (c2 : Int)) := HK2.out.cell 1
  have k2 : w2.cell? ⟨w1.heap.size, 2, none⟩ = some (.int .i64 (c3 : Int)) := HK2.out.cell 2
  have hbl : (bs ++ bitsOf c2 c1).length = bs.length + c2 := by rw [List.length_append, bitsOf_len]
  have HBL := hid hbl; clear hbl
  clear hcb
  go_wp2_with fail
  refine (pen_put _ g v2 (bs ++ bitsOf c2 c1) c3 x (by omega) hx63 (by rw [HBL.out]; omega) HP2.out).mono ?_
  rintro e w3 ⟨rfl, v3, hp3, hc3⟩
  have HP3 := hid hp3; have HC3 := hid hc3; clear hp3 hc3
  go_wp2
  go_end0
  refine ⟨rfl, v3, by rw [HC.out, ← List.append_assoc]; exact HP3.out, ?_⟩
  exact ((PenCh.refl g w v).step (bnew HB1.out _)).trans (HC2.out.trans HC3.out)

/-! ### a pen of the call's own -/
def RowGe (lo : Nat) (v : Value) : Prop := ∀ k, v.ownBlock = some k → lo ≤ k
theorem PenCh.blw2 {w wr w2 : World} {g : Nat} {v v2 : Value} (h : PenCh g wr v w2 v2) (hb : Below w.heap.size w wr) (hg : w.heap.size ≤ g) (hr : RowGe w.heap.size v) : Below w.heap.size w w2 ∧ RowGe w.heap.size v2 :=
  ⟨hb.trans (h.chg.below (fun k hk => by rcases hk with rfl | hk; exact hg; exact hr k hk) hb.size), fun k hk => by
    rcases h.row k hk with h1 | h1
    · exact hr k h1
    · have := hb.size; omega⟩
theorem PenCh.keeps {w w' : World} {g h : Nat} {v v' : Value} {l : List UInt8} {n : Nat} {t : TypeId} {cs : Array Value} (hc : PenCh g w v w' v') (hp : PenM w g v l n) (hk : Blk w h t cs) (hg : h ≠ g) (ht : 5 ≠ t) : Blk w' h t cs :=
  hc.chg.blk hk (by rintro (e | e); exact hg e; exact own_ne_blk hp.own hk ht e)
theorem PenM.chg1 {w w' : World} {g h : Nat} {v : Value} {l : List UInt8} {n : Nat} {t : TypeId} {cs : Array Value} (hp : PenM w g v l n) (hc : Chg (fun k => k = h) w w') (hk : Blk w h t cs) (hg : h ≠ g) (ht : 5 ≠ t) : PenM w' g v l n :=
  ⟨hc.blk hp.blk (fun e => hg e.symm), own_chg hp.own hc fun k hk' e => own_ne_blk hp.own hk ht (by rw [← e]; exact hk')⟩
theorem off0 {w : World} {g : Nat} {v : Value} (ht : ZTab w) (hg : w.heap.size ≤ g) (hr : RowGe w.heap.size v) : Off0 g v :=
  ⟨fun e => by have := ht.lt; omega, fun e => by have := ht.lt; have := hr _ e; omega⟩
theorem own_ge {w' : World} {lo e sz n : Nat} {v' : Value} {xs : List Value} (h : w'.ownsRow 0 e sz v' n xs) (hr : RowGe lo v') : w'.ownsRow lo e sz v' n xs := by
  refine ⟨h.1, ?_⟩
  rcases h.2 with h0 | ⟨g, cap, cur, hv, hg, hh, r⟩
  · exact .inl h0
  · exact .inr ⟨g, cap, cur, hv, hr g (by rw [hv]; rfl), hh, r⟩

theorem pen_bytes (g : Nat) (v : Value) (w : World) (c0 : w.cell? ⟨g, 0, none⟩ = some v) :
    Calls Tryd.prog 23 #[.pointer (some ⟨g, 0, none⟩)] w fun e w' => e = .returned v ∧ w = w' := by
  go_enter Tryd.func23, Tryd.ntmps23
  go_wp2
  go_ret
  exact ⟨rfl, rfl⟩

end Go.Proofs.YtifpnfhmemdljaaDoor
