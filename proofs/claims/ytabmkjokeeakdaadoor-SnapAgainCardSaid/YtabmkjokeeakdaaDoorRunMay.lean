/-
  Machines in memory; run.May, and the searches that it and run.Play make: their walks.
-/
import Derived.Test.YtabmkjokeeakdaaDoorVmRun
import Derived.Deep.CutBlock
import Derived.Deep.DeepCutAuto
import Derived.Deep.OwnRows
namespace Go.Proofs.YtabmkjokeeakdaaDoor
open Go.RowKit
set_option linter.unusedVariables false

structure VCall where
  code : Nat
  args : List Int
/-- words, codes, and what each thread calls -/
structure Mach where
  words : List Int
  codes : List (List Op5)
  threads : List (List VCall)
abbrev gC : VCall × Value → List Value := fun x => [.int .i64 (x.1.code : Int), x.2]
/-- calls in memory -/
structure CallsAt (w : World) (A : Option Addr) (n nc : Nat) (calls : List VCall) : Prop where
  len : calls.length = n
  most : n ≤ 20
  row : ∃ avs : List Value, avs.length = n ∧ Sl w 2 A n ((calls.zip avs).flatMap gC) ∧ ∀ (k : Nat) (c : VCall) (v : Value), calls[k]? = some c → avs[k]? = some v → c.code < nc ∧ ∃ A' n' c', v = .slice A' n' c' ∧ n' ≤ 8 ∧ Sl w 1 A' n' (ints c.args)
/-- a machine in memory -/
structure MachAt (w : World) (Ac : Option Addr) (nc : Nat) (At : Option Addr) (nt : Nat) (m : Mach) : Prop where
  lc : m.codes.length = nc
  lt : m.threads.length = nt
  codes : ∃ cvs : List Value, cvs.length = nc ∧ Sl w 1 Ac nc cvs ∧ ∀ (i : Nat) (code : List Op5), m.codes[i]? = some code → ∃ A n c, cvs[i]? = some (.slice A n c) ∧ n ≤ 200 ∧ code.length = n ∧ (∀ o ∈ code, OpSh n o) ∧ Sl w 5 A n (code.flatMap gO)
  threads : ∃ tvs : List Value, tvs.length = nt ∧ Sl w 1 At nt tvs ∧ ∀ (j : Nat) (calls : List VCall), m.threads[j]? = some calls → ∃ A n c, tvs[j]? = some (.slice A n c) ∧ CallsAt w A n nc calls
theorem CallsAt.below {w w' : World} {A : Option Addr} {n nc : Nat} {calls : List VCall} (h : CallsAt w A n nc calls) (hb : Below w.heap.size w w') : CallsAt w' A n nc calls := by
  obtain ⟨avs, h1, h2, h3⟩ := h.row
  refine ⟨h.len, h.most, avs, h1, h2.below hb, fun k c v hc hv => ?_⟩
  obtain ⟨a, A', n', c', b, d, e⟩ := h3 k c v hc hv
  exact ⟨a, A', n', c', b, d, e.below hb⟩
theorem MachAt.below {w w' : World} {Ac At : Option Addr} {nc nt : Nat} {m : Mach} (h : MachAt w Ac nc At nt m) (hb : Below w.heap.size w w') : MachAt w' Ac nc At nt m := by
  obtain ⟨cvs, h1, h2, h3⟩ := h.codes
  obtain ⟨tvs, g1, g2, g3⟩ := h.threads
  refine ⟨h.lc, h.lt, ⟨cvs, h1, h2.below hb, fun i code hc => ?_⟩, ⟨tvs, g1, g2.below hb, fun j calls hc => ?_⟩⟩
  · obtain ⟨A, n, c, a, b, d, e, f⟩ := h3 i code hc
    exact ⟨A, n, c, a, b, d, e, f.below hb⟩
  · obtain ⟨A, n, c, a, b⟩ := g3 j calls hc
    exact ⟨A, n, c, a, b.below hb⟩
/-- a call at its place -/
theorem CallsAt.at_ {w : World} {A : Option Addr} {n nc k : Nat} {calls : List VCall} (h : CallsAt w A n nc calls) (hk : k < n) :
    ∃ ad c A' n' c', A = some ad ∧ calls[k]? = some c ∧ c.code < nc ∧ n' ≤ 8 ∧ Sl w 1 A' n' (ints c.args) ∧ w.cell? (ad.add (k * 2)) = some (.int .i64 (c.code : Int)) ∧ w.cell? ⟨(ad.add (k * 2)).block, (ad.add (k * 2)).off + 1, none⟩ = some (.slice A' n' c') := by
  obtain ⟨avs, h1, h2, h3⟩ := h.row
  have hl := h.len
  obtain ⟨ad, e, hc⟩ := h2.2 (by omega)
  have hc1 : calls[k]? = some calls[k] := List.getElem?_eq_getElem (by omega)
  have hv1 : avs[k]? = some avs[k] := List.getElem?_eq_getElem (by omega)
  obtain ⟨a, A', n', c', b, d, f⟩ := h3 k _ _ hc1 hv1
  have hz : (calls.zip avs)[k]? = some (calls[k], avs[k]) := by rw [List.getElem?_zip_eq_some]; exact ⟨hc1, hv1⟩
  have F := fun (j : Nat) (hj : j < 2) (u : Value) (hu : (gC (calls[k], avs[k]))[j]? = some u) => hc (k * 2 + j) u (by rw [flatMap_at gC 2 (fun _ => rfl) (calls.zip avs) k j _ hz hj]; exact hu)
  refine ⟨ad, calls[k], A', n', c', e, hc1, a, d, f, F 0 (by decide) _ rfl, cell_next (by decide) (F 1 (by decide) _ ?_)⟩
  rw [← b]; rfl
theorem sl_at {w : World} {A : Option Addr} {n k : Nat} {vs : List Value} (h : Sl w 1 A n vs) (hk : k < n) : ∃ ad v, A = some ad ∧ vs[k]? = some v ∧ w.cell? (ad.add k) = some v := by
  obtain ⟨ad, e, hc⟩ := h.2 (by omega)
  have hl := h.1
  exact ⟨ad, vs[k]'(by omega), e, List.getElem?_eq_getElem _, hc k _ (List.getElem?_eq_getElem _)⟩
/-! ### the searches -/
theorem may_odd (b : Nat) (k : Int) (A' : Option Addr) (n' c' : Nat) (code nc : Nat) (w : World) (x0 x2 : Value) (Ac : Option Addr) (cc : Nat) (hk : k = (code : Int)) (h1 : code < nc) (h2 : n' ≤ 8) (hb : w.cell? ⟨b, 1, none⟩ = some (.slice Ac nc cc)) :
    Calls Tryd.prog 55 #[.agg #[.int .i64 k, .slice A' n' c'], .pointer (some ⟨b, 0, none⟩)] w fun e w' => e = .returned (.bool false) ∧ Below w.heap.size w w' := by
  subst hk
  have lb := World.block_lt_of_cell? w _ hb
  have lb' : b < w.heap.size := lb
  have i1 : (code : Int) < (nc : Int) := by omega
  have i2 : (n' : Int) ≤ 8 := by omega
  have i3 : ¬ (8 < (n' : Int)) := by omega
  have i4 : ¬ ((nc : Int) ≤ (code : Int)) := by omega
  go_enter Tryd.func55, Tryd.ntmps55
  go_wp2
  go_ret
  exact ⟨rfl, bnew (bnil w) _⟩
set_option maxHeartbeats 1000000 in
theorem index_calls (b : Nat) (A : Option Addr) (n c nc : Nat) (calls : List VCall) (w : World) (Ac : Option Addr) (cc : Nat) (h : CallsAt w A n nc calls) (hb : w.cell? ⟨b, 1, none⟩ = some (.slice Ac nc cc)) :
    Calls Tryd.prog 76 #[.slice A n c, .func (.func 55) #[] #[.pointer (some ⟨b, 0, none⟩)]] w fun e w' => e = .returned (.int .i64 (-1)) ∧ Below w.heap.size w w' := by
  have hn := h.most
  have H := hid h; clear h
  have HB := hid hb; clear hb
  go_enter Tryd.func76, Tryd.ntmps76
  go_wp2
  go_loopw [8] (fun i wr => ∃ k : Nat, k ≤ n ∧ i = .int .i64 k ∧ Hid (Below w.heap.size w wr)) (fun i _ => n - (intOf i).toNat)
  case atStart => exact ⟨0, Nat.zero_le _, rfl, hid (bnil _)⟩
  case round =>
    obtain ⟨k, hk, rfl, HW⟩ := hrel
    by_cases hlt : k < n
    · obtain ⟨ad, c0, A', n', c', rfl, hc, a1, a2, a3, d1, d2⟩ := (H.out.below HW.out).at_ hlt
      have hb1 := cell_below HW.out HB.out
      have i1 : (k : Int) < (n : Int) := by omega
      go_wp2_with fail
      refine (may_odd b _ A' n' c' c0.code nc _ (.bool true) (.bool true) Ac cc rfl a1 a2 hb1).mono ?_
      rintro e w2 ⟨rfl, b2⟩
      go_wp2
      go_roundw
      case rel => exact ⟨k + 1, by omega, by go_num, hid (bgo HW.out b2)⟩
      case measure => simp [intOf]; omega
    · obtain rfl : k = n := by omega
      go_wp2
      go_ret
      exact ⟨rfl, HW.out⟩
theorem contains_calls (b : Nat) (A : Option Addr) (n c nc : Nat) (calls : List VCall) (w : World) (Ac : Option Addr) (cc : Nat) (h : CallsAt w A n nc calls) (hb : w.cell? ⟨b, 1, none⟩ = some (.slice Ac nc cc)) :
    Calls Tryd.prog 56 #[.slice A n c, .func (.func 55) #[] #[.pointer (some ⟨b, 0, none⟩)]] w fun e w' => e = .returned (.bool false) ∧ Below w.heap.size w w' := by
  go_enter Tryd.func56, Tryd.ntmps56
  go_wp2_with fail
  refine (index_calls b A n c nc calls w Ac cc h hb).mono ?_
  rintro e w2 ⟨rfl, b2⟩
  go_wp2
  go_ret
  exact ⟨rfl, b2⟩
theorem play_odd (b : Nat) (x nt : Nat) (w : World) (At : Option Addr) (ct : Nat) (h1 : x < nt) (hb : w.cell? ⟨b, 2, none⟩ = some (.slice At nt ct)) :
    Calls Tryd.prog 58 #[.int .i64 (x : Int), .pointer (some ⟨b, 0, none⟩)] w fun e w' => e = .returned (.bool false) ∧ w' = w := by
  have i1 : (x : Int) < (nt : Int) := by omega
  have i2 : ¬ ((nt : Int) ≤ (x : Int)) := by omega
  go_enter Tryd.func58, Tryd.ntmps58
  go_wp2
  go_ret
  exact ⟨rfl, rfl⟩
set_option maxHeartbeats 1000000 in
theorem index_ints (b : Nat) (A : Option Addr) (n c nt : Nat) (l : List Nat) (w : World) (At : Option Addr) (ct : Nat) (hn : n ≤ 6000) (h : Sl w 1 A n (ints (l.map fun x : Nat => (x : Int)))) (hl : ∀ x ∈ l, x < nt) (hb : w.cell? ⟨b, 2, none⟩ = some (.slice At nt ct)) :
    Calls Tryd.prog 77 #[.slice A n c, .func (.func 58) #[] #[.pointer (some ⟨b, 0, none⟩)]] w fun e w' => e = .returned (.int .i64 (-1)) ∧ w' = w := by
  have H := hid h; clear h
  have HL := hid hl; clear hl
  go_enter Tryd.func77, Tryd.ntmps77
  go_wp2
  go_loopw [8] (fun i wr => ∃ k : Nat, k ≤ n ∧ i = .int .i64 k ∧ wr = w) (fun i _ => n - (intOf i).toNat)
  case atStart => exact ⟨0, Nat.zero_le _, rfl, rfl⟩
  case round =>
    obtain ⟨k, hk, rfl, rfl⟩ := hrel
    by_cases hlt : k < n
    · obtain ⟨ad, x, rfl, hx, cx⟩ := H.out.ati hlt
      rw [List.getElem?_map] at hx
      obtain ⟨y, hy, rfl⟩ := Option.map_eq_some_iff.1 hx
      have hyl := HL.out y (List.mem_of_getElem? hy)
      clear hx hy
      have i1 : (k : Int) < (n : Int) := by omega
      go_wp2_with fail
      refine (play_odd b y nt _ At ct hyl hb).mono ?_
      rintro e w2 ⟨rfl, rfl⟩
      go_wp2
      go_roundw
      case rel => exact ⟨k + 1, by omega, by go_num, trivial⟩
      case measure => simp [intOf]; omega
    · obtain rfl : k = n := by omega
      go_wp2
      go_ret
      exact ⟨rfl, rfl⟩
theorem contains_ints (b : Nat) (A : Option Addr) (n c nt : Nat) (l : List Nat) (w : World) (At : Option Addr) (ct : Nat) (hn : n ≤ 6000) (h : Sl w 1 A n (ints (l.map fun x : Nat => (x : Int)))) (hl : ∀ x ∈ l, x < nt) (hb : w.cell? ⟨b, 2, none⟩ = some (.slice At nt ct)) :
    Calls Tryd.prog 57 #[.slice A n c, .func (.func 58) #[] #[.pointer (some ⟨b, 0, none⟩)]] w fun e w' => e = .returned (.bool false) ∧ w' = w := by
  go_enter Tryd.func57, Tryd.ntmps57
  go_wp2_with fail
  refine (index_ints b A n c nt l w At ct hn h hl hb).mono ?_
  rintro e w2 ⟨rfl, rfl⟩
  go_wp2
  go_ret
  exact ⟨rfl, rfl⟩
set_option maxHeartbeats 2000000 in
set_option maxRecDepth 100000 in
theorem run_may (Aw Ac At : Option Addr) (nw cw nc cc nt ct : Nat) (m : Mach) (w : World) (hw : nw ≤ 200) (hc : nc ≤ 8) (ht : nt ≤ 4) (hT : STab w) (h : MachAt w Ac nc At nt m) :
    Calls Tryd.prog 29 #[.agg #[.slice Aw nw cw, .slice Ac nc cc, .slice At nt ct]] w fun e w' => e = .returned (.bool true) ∧ Below w.heap.size w w' := by
  have H := hid h; clear h
  have HT := hid hT; clear hT
  obtain ⟨b, hb⟩ : ∃ b, w.heap.size = b := ⟨_, rfl⟩
  obtain ⟨w0, hw0⟩ : ∃ w0, w.alloc (.cells #[.slice Aw nw cw, .slice Ac nc cc, .slice At nt ct] 29) = w0 := ⟨_, rfl⟩
  have BL := hid (show Blk w0 b 29 #[.slice Aw nw cw, .slice Ac nc cc, .slice At nt ct] by rw [← hw0, ← hb]; exact Blk.new w _ _)
  have B0 := hid (show Below w.heap.size w w0 by rw [← hw0]; exact bnew (bnil w) _)
  have i1 : ¬ (200 < (nw : Int)) := by omega
  have i2 : ¬ (8 < (nc : Int)) := by omega
  have i3 : ¬ (4 < (nt : Int)) := by omega
  have f0 : w0.cell? ⟨b, 0, none⟩ = some (.slice Aw nw cw) := BL.out.cell 0
  have f1 : w0.cell? ⟨b, 1, none⟩ = some (.slice Ac nc cc) := BL.out.cell 1
  have f2 : w0.cell? ⟨b, 2, none⟩ = some (.slice At nt ct) := BL.out.cell 2
  go_enter Tryd.func29, Tryd.ntmps29
  obtain ⟨cvs, g1, g2, g3⟩ := H.out.codes
  obtain ⟨tvs, g4, g5, g6⟩ := H.out.threads
  have G2 := hid g2; have G3 := hid g3; have G5 := hid g5; have G6 := hid g6; have HNC := hid H.out.lc; have HNT := hid H.out.lt
  have G1 := hid g1; have G4 := hid g4
  clear g1 g2 g3 g4 g5 g6
  go_wp2
  go_loopw [27] (fun i wr => ∃ k : Nat, k ≤ nc ∧ i = .int .i64 k ∧ Hid (Below w0.heap.size w0 wr)) (fun i _ => nc - (intOf i).toNat)
  case atStart => exact ⟨0, Nat.zero_le _, rfl, hid (bnil _)⟩
  case round =>
    obtain ⟨k, hk, rfl, HW⟩ := hrel
    have e0 := cell_below HW.out f0
    have e1 := cell_below HW.out f1
    have e2 := cell_below HW.out f2
    by_cases hlt : k < nc
    · obtain ⟨ad, v, rfl, hv, cv⟩ := sl_at ((G2.out.below B0.out).below HW.out) hlt
      obtain ⟨code, hcode⟩ : ∃ code, m.codes[k]? = some code := ⟨_, List.getElem?_eq_getElem (show k < m.codes.length by rw [HNC.out]; exact hlt)⟩
      obtain ⟨A, n, c, hv', hn, hl, hs, hsl⟩ := G3.out k _ hcode
      rw [hv] at hv'; injection hv' with hv'; subst hv'
      have HS := hid hs; have HSL := hid hsl
      clear hs hsl hv hl hcode
      have i4 : (k : Int) < (nc : Int) := by omega
      go_wp2_with fail
      refine (vm_may A n c code wr hn ((HT.out.below B0.out).below HW.out) HS.out ((HSL.out.below B0.out).below HW.out)).mono ?_
      rintro e w2 ⟨rfl, b2⟩
      go_wp2
      go_roundw
      case rel => exact ⟨k + 1, by omega, by go_num, hid (bgo HW.out b2)⟩
      case measure => simp [intOf]; omega
    · obtain rfl : k = nc := by omega
      have i4 : ¬ (k : Int) < (k : Int) := by omega
      obtain ⟨wq, hwq⟩ : ∃ wq, wq = wr := ⟨_, rfl⟩
      subst hwq
      go_wp2
      go_loopw [38] (fun i w5 => ∃ j : Nat, j ≤ nt ∧ i = .int .i64 j ∧ Hid (Below wq.heap.size wq w5)) (fun i _ => nt - (intOf i).toNat)
      case atStart => exact ⟨0, Nat.zero_le _, rfl, hid (bnil _)⟩
      case round =>
        obtain ⟨j, hj, rfl, HX⟩ := hrel
        have d1 := cell_below HX.out e1
        by_cases hlt2 : j < nt
        · obtain ⟨ad, v, rfl, hv, cv⟩ := sl_at (((G5.out.below B0.out).below HW.out).below HX.out) hlt2
          obtain ⟨calls, hcalls⟩ : ∃ calls, m.threads[j]? = some calls := ⟨_, List.getElem?_eq_getElem (show j < m.threads.length by rw [HNT.out]; exact hlt2)⟩
          obtain ⟨A, n, c, hv', hca⟩ := G6.out j _ hcalls
          rw [hv] at hv'; injection hv' with hv'; subst hv'
          have hn := hca.most
          have HCA := hid hca
          clear hca hv hcalls
          have i5 : (j : Int) < (nt : Int) := by omega
          have i6 : ¬ (20 < (n : Int)) := by omega
          go_wp2_with fail
          refine (contains_calls b A n c k calls _ Ac cc (((HCA.out.below B0.out).below HW.out).below HX.out) d1).mono ?_
          rintro e w6 ⟨rfl, b6⟩
          go_wp2
          go_roundw
          case rel => exact ⟨j + 1, by omega, by go_num, hid (bgo HX.out b6)⟩
          case measure => simp [intOf]; omega
        · obtain rfl : j = nt := by omega
          have i5 : ¬ (j : Int) < (j : Int) := by omega
          go_wp2
          go_ret
          exact ⟨rfl, by rw [← hb]; exact bgo B0.out (bgo HW.out HX.out)⟩
end Go.Proofs.YtabmkjokeeakdaaDoor
