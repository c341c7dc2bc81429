/-
  Schedule: numbers below n, at most so many: its walk. barographkeep.never: its walk. SnapAgain: its walk. Written by gen_snapag.py. (Merged by merge.py.)
-/
import Derived.Test.YtabmkjokeeakdaaDoorRunMem
import Derived.Test.YtabmkjokeeakdaaDoorSnAl
import Derived.Test.YtabmkjokeeakdaaDoorRan
import Derived.Test.YtabmkjokeeakdaaDoorDsAt
import Derived.Deep.RegionHeld
namespace Go.Proofs.YtabmkjokeeakdaaDoor
set_option linter.unusedVariables false

section
open Go.RowKit
def schedN (l : List UInt8) (N M : Nat) : List Nat := (l.take M).map fun x => x.toNat % N
theorem schedN_len (l : List UInt8) (N M : Nat) : (schedN l N M).length = min M l.length := by unfold schedN; simp
theorem schedN_lt (l : List UInt8) {N : Nat} (hN : 0 < N) (M : Nat) : ∀ x ∈ schedN l N M, x < N := by
  intro x hx
  unfold schedN at hx
  obtain ⟨y, _, rfl⟩ := List.mem_map.1 hx
  exact Nat.mod_lt _ hN
abbrev nats (l : List Nat) : List Int := l.map fun x : Nat => (x : Int)
theorem schedule_n (A : Option Addr) (n c N M : Nat) (l : List UInt8) (w : World) (hn : n ≤ 9223372036854775807) (hN : 0 < N) (hN2 : N ≤ 200) (hM : M ≤ 6000) (h : Sl w 1 A n (byts l)) :
    Calls Tryd.prog 15 #[.slice A n c, .int .i64 (N : Int), .int .i64 (M : Int)] w fun e w' => ∃ v, e = .returned v ∧ Ow w w' 3 1 gI v (nats (schedN l N M)) := by
  have H := hid h; clear h
  have HL := hid H.out.lenb
  have hz : ¬ ((N : Int) = 0) := by omega
  have hz2 : ((N : Int) == 0) = false := by simp; omega
  go_enter Tryd.func15, Tryd.ntmps15
  go_wp2
  go_loopw [7, 8] (fun v i wr => ∃ (k : Nat) (A1 : Option Addr) (c1 : Nat), k ≤ M ∧ k ≤ n ∧ i = .int .i64 k ∧ v = .slice A1 k c1 ∧ Hid (Ow w wr 3 1 gI (.slice A1 k c1) (nats (schedN l N k)))) (fun _ i _ => M - (intOf i).toNat)
  case atStart => exact ⟨0, none, 0, Nat.zero_le _, Nat.zero_le _, rfl, rfl, hid (Ow.nil _ _ _ _)⟩
  case round =>
    obtain ⟨k, A1, c1, hk, hkn, rfl, rfl, HO⟩ := hrel
    by_cases h1 : k < n
    · have i1 : (k : Int) < (n : Int) := by omega
      by_cases h2 : k < M
      · have i2 : (k : Int) < (M : Int) := by omega
        obtain ⟨ad, x, rfl, hx, cx⟩ := (H.out.below HO.out.below).at_ h1
        have x0 := byte_ge x
        have x1 := byte_lt x
        have HX := hid hx
        obtain ⟨X, hX⟩ : ∃ X, x.toNat = X := ⟨_, rfl⟩
        rw [hX] at cx x0 x1
        obtain ⟨r, hr⟩ : ∃ r, X % N = r := ⟨_, rfl⟩
        have em : (X : Int).tmod (N : Int) = (r : Int) := by rw [Int.tmod_eq_emod_of_nonneg (by omega), ← hr]; omega
        have hr2 : r < N := by rw [← hr]; exact Nat.mod_lt _ hN
        have iw : IntKind.i64.wrap (r : Int) = (r : Int) := IntWalk.i64_in _ (by omega)
        obtain ⟨y, hy⟩ : ∃ y, nats (schedN l N k) ++ [(r : Int)] = y := ⟨_, rfl⟩
        have HYE := hid (show y = nats (schedN l N (k + 1)) by rw [← hy, ← hr, ← hX]; unfold nats schedN; rw [take_next HX.out, List.map_append, List.map_append]; rfl)
        have HY := hid hy
        have HYN := hid (show y.length = k + 1 by rw [HYE.out]; unfold nats; rw [List.length_map, schedN_len, HL.out]; omega)
        clear hx hy hX hr
        go_wp2_with (at_builtin; refine wpList_appY elmI gI_one rfl (.tmp 20) (.tmp 28) rfl (.slice A1 k c1) _ rfl (HO.out.alloc _) [(r : Int)] y HY rfl (Sl.fresh wr #[_] 3 1 1 rfl) (by go_num) (by rw [HYN.out]; simp only [maxLen]; omega) (by rw [HYN.out]; omega) ?_; intro A4 c4 w4 hc4 hc5 HN1 _ _)
        go_roundw
        case rel => exact ⟨k + 1, A4, c4, by omega, by omega, by go_num, by rw [HYN.out], hid (by have h1 := HN1.out; rw [HYN.out] at h1; rw [← HYE.out]; exact h1)⟩
        case measure => simp [intOf]; omega
      · obtain rfl : k = M := by omega
        have i2 : ¬ (k : Int) < (k : Int) := by omega
        go_wp2
        go_ret
        exact ⟨_, rfl, HO.out⟩
    · obtain rfl : k = n := by omega
      have i1 : ¬ (k : Int) < (k : Int) := by omega
      have E := hid (show schedN l N k = schedN l N M by unfold schedN; rw [List.take_of_length_le (by rw [HL.out]; exact Nat.le_refl _), List.take_of_length_le (by rw [HL.out]; omega)])
      go_wp2
      go_ret
      exact ⟨_, rfl, by rw [← E.out]; exact HO.out⟩
end

section
open Go.RowKit
set_option maxHeartbeats 8000000 in
set_option maxRecDepth 100000 in
theorem never_of (AW : Option Addr) (cW Cb T n : Nat) (As : Option Addr) (ns cs : Nat) (l : List Nat) (w : World) (h2 : 2 ≤ n) (h4 : n ≤ 4) (hns : ns ≤ 6000) (hncs : ns ≤ cs) (hT : STab w) (hm : MachAt w (some ⟨Cb, 0, none⟩) 2 (some ⟨T, 0, none⟩) 3 (agM n)) (hw : Sl w 1 AW n (ints (agM n).words)) (hl : Sl w 1 As ns (ints (l.map fun x : Nat => (x : Int)))) (hlt : ∀ x ∈ l, x < 3) :
    Calls Tryd.prog 24 #[.agg #[.slice AW n cW, .slice (some ⟨Cb, 0, none⟩) 2 2, .slice (some ⟨T, 0, none⟩) 3 3], .int .i64 (n : Int), .slice As ns cs] w fun e w' => e = .returned (.bool true) ∧ Below w.heap.size w w' := by
  have HT := hid hT; have HM := hid hm; have HW := hid hw; have HL := hid hl; have HLT := hid hlt
  have HA := hid (snap_again h2 h4 l)
  clear hT hm hw hl hlt
  obtain ⟨X, hX⟩ : ∃ X, w.heap.size = X := ⟨_, rfl⟩
  have BN := hid (bnew (bnil w) (.cells #[.slice AW n cW, .slice (some ⟨Cb, 0, none⟩) 2 2, .slice (some ⟨T, 0, none⟩) 3 3] 29))
  have HXB := hid (blkN w 29 #[.slice AW n cW, .slice (some ⟨Cb, 0, none⟩) 2 2, .slice (some ⟨T, 0, none⟩) 3 3] X hX)
  go_enter Tryd.func24, Tryd.ntmps24
  go_upto_region 1 with fail
  try rw [hX]
  clear hX
  generalize World.alloc w _ = w2 at *
  have y0 : w2.cell? ⟨X, 0, none⟩ = some (.slice AW n cW) := HXB.out.cell 0
  have y1 : w2.cell? ⟨X, 1, none⟩ = some (.slice (some ⟨Cb, 0, none⟩) 2 2) := HXB.out.cell 1
  have y2 : w2.cell? ⟨X, 2, none⟩ = some (.slice (some ⟨T, 0, none⟩) 3 3) := HXB.out.cell 2
  go_wp2_with fail
  refine (ran_of AW (some ⟨Cb, 0, none⟩) (some ⟨T, 0, none⟩) As n cW 2 2 3 3 ns cs (agM n) l w2 (by omega) (by decide) (by decide) hns hncs (HT.out.below BN.out) (HM.out.below BN.out) (HW.out.below BN.out) (HL.out.below BN.out) HLT.out HA.out.2 (play_fin _ l)).mono ?_
  rintro e w3 ⟨v3, rs, rfl, hrow, hrs, htold, b3⟩
  obtain ⟨A3, c3, rfl, hc3, hc3'⟩ := own_form hrow
  obtain ⟨LD, hLD⟩ : ∃ L, rs.length = L := ⟨_, rfl⟩
  rw [hLD] at hrow hc3 ⊢
  have HD := hid (DsAt.mk hLD hrow htold)
  have HRS := hid hrs
  have B3 := hid (bgo BN.out b3)
  have HC := hid HA.out.1
  generalize doings (play (agM n) l).evs = ds at *
  have hLM : LD ≤ maxLen := by omega
  unfold maxLen at hLM
  clear hrow htold hrs hLD b3 y0 y1 y2 hc3 hc3' HT HM HW HL HLT HA HXB BN hns hncs
  go_wp2_with fail
  go_loopw [9] (fun v wx => ∃ k : Nat, k ≤ LD ∧ v = .int .i64 k ∧ Hid (Below w3.heap.size w3 wx)) (fun v _ => LD - (intOf v).toNat)
  case atStart => exact ⟨0, Nat.zero_le _, rfl, hid (bnil _)⟩
  case round =>
    obtain ⟨k, hk, rfl, BR⟩ := hrel
    by_cases hlt : k < LD
    · have j1 : (k : Int) < (LD : Int) := by omega
      obtain ⟨b9, d, At, ct, rfl, hd, lt9, u0, u1, u2, u3, u4, ut⟩ := (HD.out.below BR.out).at_ hlt
      rw [HRS.out] at hd
      have HDK := hid hd
      have HUT := hid ut
      obtain ⟨LT, hLT⟩ : ∃ L, d.told.length = L := ⟨_, rfl⟩
      rw [hLT] at u4
      obtain ⟨EY, hEY⟩ : ∃ E, eI d.e = E := ⟨_, rfl⟩
      rw [hEY] at u1
      have HEY := hid hEY
      have HLT := hid hLT
      obtain ⟨bx, hbx⟩ : ∃ bx, wr.heap.size = bx := ⟨_, rfl⟩
      have HBX := hid hbx
      have XB0 := hid (blkN wr 41 #[.int .i64 (d.b : Int), .int .i64 EY, .int .i64 (d.t : Int), .int .i64 (d.c : Int), .slice At LT ct] bx hbx)
      have BX0 := hid (bnew (bnil wr) (.cells #[.int .i64 (d.b : Int), .int .i64 EY, .int .i64 (d.t : Int), .int .i64 (d.c : Int), .slice At LT ct] 41))
      clear hbx ut lt9 hd hEY hLT
      go_upto_region 8 with fail
      try rw [HBX.out]
      obtain ⟨wp, hwp⟩ : ∃ wp, wr.alloc (.cells #[.int .i64 (d.b : Int), .int .i64 EY, .int .i64 (d.t : Int), .int .i64 (d.c : Int), .slice At LT ct] 41) = wp := ⟨_, rfl⟩
      rw [hwp] at XB0 BX0 ⊢
      clear hwp HBX u0 u1 u2 u3 u4
      have BP := hid (bgo BR.out BX0.out)
      have HUP := hid (own_below HUT.out BX0.out)
      have x1 : wp.cell? ⟨bx, 1, none⟩ = some (.int .i64 EY) := XB0.out.cell 1
      have x2 : wp.cell? ⟨bx, 2, none⟩ = some (.int .i64 (d.t : Int)) := XB0.out.cell 2
      clear BX0 BR HUT
      by_cases h0 : d.t = 0
      · have q1 : ((d.t : Int) == 0) = true := by rw [h0]; rfl
        clear h0
        go_wp2_with fail
        go_roundw
        case rel => exact ⟨k + 1, by omega, by go_num, BP⟩
        case measure => simp [intOf]; omega
      have q1 : ((d.t : Int) == 0) = false := beqF (by omega)
      cases he : d.e with
      | none =>
        have hE : EY = -1 := by rw [← HEY.out, he]; rfl
        subst hE
        clear h0 he
        go_wp2_with fail
        go_roundw
        case rel => exact ⟨k + 1, by omega, by go_num, BP⟩
        case measure => simp [intOf]; omega
      | some e =>
        have hE : EY = (e : Int) := by rw [← HEY.out, he]; rfl
        subst hE
        have q2 : ((e : Int) == -1) = false := beqF (by omega)
        have hg := HC.out k d e HDK.out h0 he
        have hLn : LT = n := by rw [← HLT.out]; exact hg.len
        subst hLn
        have x4 : wp.cell? ⟨bx, 4, none⟩ = some (.slice At LT ct) := XB0.out.cell 4
        obtain ⟨bt, c', e1, hbt, hct⟩ := own_at HUP.out (by rw [HLT.out]; omega)
        injection e1 with e1 ex1 ex2
        subst e1
        clear ex1 ex2
        have hcell : ∀ j : Nat, j < LT → wp.cell? ⟨bt, j, none⟩ = some (.int .i64 (vget d.told j)) := fun j hj => hct j _ (by
          have h := flatMap_at gI 1 (fun _ => rfl) d.told j 0 (vget d.told j) (by unfold vget; rw [Int.toNat_natCast, List.getD_eq_getElem?_getD, List.getElem?_eq_getElem (by rw [HLT.out]; exact hj)]; rfl) (by decide)
          rw [Nat.mul_one, Nat.add_zero] at h
          rw [h]; rfl)
        have t0 := hcell 0 (by omega)
        have t1 := hcell 1 (by omega)
        have HCL := hid (show ∀ j : Nat, 2 ≤ j → j < LT → wp.cell? ⟨bt, j, none⟩ = some (.int .i64 0) from fun j h2 hj => by rw [hcell j hj, hg.rest j h2 hj])
        obtain ⟨X0, hX0⟩ : ∃ X0, vget d.told ((0 : Nat) : Int) = X0 := ⟨_, rfl⟩
        obtain ⟨X1, hX1⟩ : ∃ X1, vget d.told ((1 : Nat) : Int) = X1 := ⟨_, rfl⟩
        rw [hX0] at t0
        rw [hX1] at t1
        have g1 : 0 ≤ X0 := by rw [← hX0]; exact hg.lo0
        have g2 : X0 ≤ 1 := by rw [← hX0]; exact hg.hi0
        have g3 : 0 ≤ X1 := by rw [← hX1]; exact hg.lo1
        have g4 : X1 ≤ 1 := by rw [← hX1]; exact hg.hi1
        have g5 : ¬ (X0 = 0 ∧ X1 = 1) := by rw [← hX0, ← hX1]; exact hg.no
        have i2 : (1 : Int) < (LT : Int) := by omega
        have hcase : (X0 = 0 ∧ X1 = 0) ∨ (X0 = 1 ∧ X1 = 0) ∨ (X0 = 1 ∧ X1 = 1) := by omega
        clear g1 g2 g3 g4 g5 hX0 hX1 hcell hct hg he h0 hbt HUP
        rcases hcase with ⟨rfl, rfl⟩ | ⟨rfl, rfl⟩ | ⟨rfl, rfl⟩
        all_goals
          go_wp2_with fail
          go_loopw [11] (fun v wx => ∃ j : Nat, 2 ≤ j ∧ j ≤ LT ∧ v = .int .i64 j ∧ wx = wp) (fun v _ => LT - (intOf v).toNat)
          case atStart => exact ⟨2, Nat.le_refl _, by omega, rfl, rfl⟩
          case round =>
            obtain ⟨j, hj2, hj, rfl, rfl⟩ := hrel
            by_cases hjn : j < LT
            · have j3 : (j : Int) < (LT : Int) := by omega
              have tj := HCL.out j hj2 hjn
              go_wp2_with fail
              go_roundw
              case rel => exact ⟨j + 1, by omega, by omega, by go_num, trivial⟩
              case measure => simp [intOf]; omega
            · obtain rfl : LT = j := by omega
              have j3 : ¬ (LT : Int) < (LT : Int) := by omega
              go_wp2_with fail
              go_roundw
              case rel => exact ⟨k + 1, by omega, by go_num, BP⟩
              case measure => simp [intOf]; omega
    · obtain rfl : LD = k := by omega
      have j1 : ¬ (LD : Int) < (LD : Int) := by omega
      go_wp2_with fail
      go_ret
      exact ⟨rfl, bgo B3.out BR.out⟩
end

section
open Go.RowKit
/-- a machine while calls are appended -/
structure SBn (W0 w : World) (X Cb T nc nt : Nat) (Wv : Value) (ws : List Int) (cv : Nat → Value) (ks : Nat → List Op5) (tv : Nat → Value) (th : Nat → List VCall) (av : Nat → List SV) : Prop where
  below : Below W0.heap.size W0 w
  hx : Blk w X 29 #[Wv, .slice (some ⟨Cb, 0, none⟩) nc nc, .slice (some ⟨T, 0, none⟩) nt nt]
  own : w.ownsRow W0.heap.size 3 1 Wv ws.length (ws.flatMap gI)
  mn : MN W0.heap.size w nc nt Cb T cv ks tv th av
section
variable {W0 w w' : World} {X Cb T nc nt : Nat} {Wv : Value} {ws : List Int} {cv : Nat → Value} {ks : Nat → List Op5} {tv : Nat → Value} {th : Nat → List VCall} {av : Nat → List SV}
theorem SBn.step (h : SBn W0 w X Cb T nc nt Wv ws cv ks tv th av) (hb : Below w.heap.size w w') : SBn W0 w' X Cb T nc nt Wv ws cv ks tv th av :=
  ⟨bgo h.below hb, h.hx.below' hb, own_below h.own hb, h.mn.below hb⟩
theorem SBn.row (h : SBn W0 w X Cb T nc nt Wv ws cv ks tv th av) {j : Nat} (hj : j < nt) : ∃ (Aj : Option Addr) (cj : Nat), tv j = .slice Aj (th j).length cj ∧ ARow W0 w X T j nt (th j).length Aj cj ((th j).zip (av j)) := by
  have hrow := h.mn.rows j hj
  obtain ⟨Aj, cj, hAj, hcj1, hcj2⟩ := own_form hrow.2.1
  have hlen : ((th j).zip (av j)).length = (th j).length := by rw [List.length_zip, hrow.1, Nat.min_self]
  refine ⟨Aj, cj, hAj, h.below.size, h.hx.cell 2, ?_, h.mn.tb.frozen j, hlen, hcj1, hcj2, fun w' hb => ?_, fun wA w6 hb hG => ?_⟩
  · rw [h.mn.tb.cell j, arrN_at tv hj, hAj]
  · have h1 := own_below hrow.2.1 hb
    rw [hAj] at h1
    rw [hlen]
    exact h1
  · rw [← hAj] at hG
    obtain ⟨g1, g2⟩ := h.mn.grown hj hb hG
    have gX := g2 (by decide) h.hx
    exact ⟨⟨gX.cell 2, g1.frozen j⟩, by rw [g1.cell j, arrN_at tv hj, hAj], fun v => ⟨(gX.far (p := ⟨T, j, none⟩) (gX.ne_ g1 (by decide)) v).cell 2, (g1.set_ j v).frozen j⟩⟩
/-- behind an append -/
theorem SBn.app (h : SBn W0 w X Cb T nc nt Wv ws cv ks tv th av) {j : Nat} (hj : j < nt) {wA w6 : World} {v' : Value} (cs : List VCall) (as_ : List SV) {y : List (VCall × SV)}
    (hb : Below w.heap.size w wA) (hl : as_.length = cs.length) (ha : ∀ (k : Nat) (c : VCall) (a : SV), cs[k]? = some c → as_[k]? = some a → wA.ownsRow W0.heap.size 3 1 a.v c.args.length (c.args.flatMap gI)) (hy : (th j).zip (av j) ++ cs.zip as_ = y)
    (hG : wA.grownBy w6 (tv j).ownBlock) (hv : v'.ownBlock = (tv j).ownBlock ∨ v'.ownBlock = some wA.heap.size) (hr : w6.ownsRow W0.heap.size 35 2 v' y.length (y.flatMap gS)) :
    SBn W0 (w6.setCell ⟨T, j, none⟩ v') X Cb T nc nt Wv ws cv ks (upd tv j v') (upd th j (th j ++ cs)) (upd av j (av j ++ as_)) := by
  obtain ⟨g1, g2⟩ := h.mn.grown hj hb hG
  have far : ∀ {g : Nat} {cs : Array Value}, Blk w g 29 cs → Blk (w6.setCell ⟨T, j, none⟩ v') g 29 cs := fun hx => (g2 (by decide) hx).far (p := ⟨T, j, none⟩) ((g2 (by decide) hx).ne_ g1 (by decide)) v'
  exact ⟨(h.mn.chg hj hb hG h.below rfl v').2, far h.hx, h.mn.other hj hb hG h.own (by decide) (by decide) v', h.mn.snoc hj cs as_ hb hl ha hy hG hv hr⟩
end
def ath (j a b t : Nat) : List VCall := if t = 0 then agcalls j else if t = 1 then List.replicate a ⟨1, []⟩ else if t = 2 then List.replicate b ⟨1, []⟩ else []
theorem ath_zero : ath 0 0 0 = fun _ => [] := by
  funext t
  unfold ath
  split
  · rfl
  · split
    · rfl
    · split <;> rfl
theorem ath_0 (j : Nat) : upd (ath j 0 0) 0 (ath j 0 0 0 ++ [⟨0, [(agp j : Int), (agv j : Int)]⟩]) = ath (j + 1) 0 0 := by
  funext t
  unfold upd ath
  by_cases h : t = 0
  · subst h; simp [agcalls, List.range_succ]
  · simp [h]
theorem ath_1 (j : Nat) : upd (ath 20 j j) 1 (ath 20 j j 1 ++ [⟨1, []⟩]) = ath 20 (j + 1) j := by
  funext t
  unfold upd ath
  by_cases h : t = 1
  · subst h; simp [List.replicate_succ']
  · simp [h]
theorem ath_2 (j : Nat) : upd (ath 20 (j + 1) j) 2 (ath 20 (j + 1) j 2 ++ [⟨1, []⟩]) = ath 20 (j + 1) (j + 1) := by
  funext t
  unfold upd ath
  by_cases h : t = 2
  · subst h; simp [List.replicate_succ']
  · simp [h]
theorem ath_len {j a b t : Nat} (hj : j ≤ 20) (ha : a ≤ 8) (hb : b ≤ 8) : (ath j a b t).length ≤ 20 := by
  unfold ath agcalls
  split
  · simp; omega
  · split
    · simp; omega
    · split
      · simp; omega
      · simp
theorem agM_at {B : Nat} {w : World} {Cb T n : Nat} {cv tv : Nat → Value} {av : Nat → List SV} (h : MN B w 2 3 Cb T cv (fun i => [nputCode, nscanCode n].getD i []) tv (ath 20 8 8) av) (h1 : 1 ≤ n) (h4 : n ≤ 4) : MachAt w (some ⟨Cb, 0, none⟩) 2 (some ⟨T, 0, none⟩) 3 (agM n) := by
  refine h.at_ rfl rfl (fun i hi => ?_) (fun j hj => ?_)
  · rcases (show i = 0 ∨ i = 1 by omega) with rfl | rfl
    · exact ⟨by show nputCode.length ≤ 200; decide, nput_sh⟩
    · exact ⟨by show (nscanCode n).length ≤ 200; rw [nscan_len h1 h4]; omega, nscan_sh h1 h4⟩
  · refine ⟨Nat.le_trans (ath_len (by decide) (by decide) (by decide)) (by decide), fun c hc => ?_⟩
    unfold ath at hc
    split at hc
    · obtain ⟨p, q, _, rfl⟩ := agcalls_mem hc
      exact ⟨Nat.le_of_ble_eq_true rfl, Nat.le_of_ble_eq_true rfl⟩
    · split at hc
      · rw [List.eq_of_mem_replicate hc]; exact ⟨by decide, by decide⟩
      · split at hc
        · rw [List.eq_of_mem_replicate hc]; exact ⟨by decide, by decide⟩
        · cases hc
theorem agp_at (i : Nat) {k : Nat} (hk : k < 4) : agp (4 * i + k) = agp k := by unfold agp; rw [show (4 * i + k) % 4 = k % 4 by omega]
theorem agv_at (i : Nat) {k : Nat} (hk : k < 4) : agv (4 * i + k) = agv k := by unfold agv; rw [show (4 * i + k) % 4 = k % 4 by omega]
set_option maxHeartbeats 8000000 in
set_option maxRecDepth 100000 in
theorem law_snapAgain (xi yi : Int) (S : Option Addr) (p q : Nat) (bs : List UInt8) (w : World) (ha : -9223372036854775808 ≤ xi) (ha1 : xi ≤ 9223372036854775807) (hb : -9223372036854775808 ≤ yi) (hb1 : yi ≤ 9223372036854775807)
    (hp : p ≤ q) (hq : q ≤ maxLen) (_ : q * 1 ≤ 140737488351232) (hS : Sl w 1 S p (byts bs)) (hT : STab w) :
    Calls Tryd.prog 10 #[.int .i64 xi, .int .i64 yi, .slice S p q] w fun e w' => e = .returned (.bool true) ∧ Below w.heap.size w w' := by
  have HT := hid hT; have HS := hid hS
  clear hT hS
  have hpl : p ≤ 9223372036854775807 := by unfold maxLen at hq; omega
  clear hq
  have m1 := pk_lt xi 3 (by decide)
  obtain ⟨n, hR⟩ : ∃ n : Nat, wrap64 (2 + (pk xi 3 : Int)) = (n : Int) ∧ n = 2 + pk xi 3 := ⟨2 + pk xi 3, by rw [wrap_mid (by omega) (by omega)]; omega, rfl⟩
  have h2 : 2 ≤ n := by omega
  have h1 : 1 ≤ n := by omega
  have h6 : n ≤ 4 := by omega
  have HR1 := hid hR.1
  clear hR m1
  go_enter Tryd.func10, Tryd.ntmps10
  go_wp2_with fail
  refine (picked xi 3 w (by decide) ha ha1 (by decide)).mono ?_
  rintro e w' ⟨rfl, rfl⟩
  go_wp2_with fail
  try rw [HR1.out]
  refine (snap_machine none 0 0 n [] w h1 h6 (by decide) ⟨rfl, fun h => absurd h (by decide)⟩ (by intro x hx; cases hx) HT.out).mono ?_
  rintro e w1 hp1
  obtain ⟨AW, cW, Cb, T0, cv, tv0, av0, rfl, hW, hM, b1⟩ := hp1
  have HM := hid hM; have B1 := hid b1; have HW := hid hW
  clear hM b1 hW ha ha1
  obtain ⟨X, hX⟩ : ∃ X, w1.heap.size = X := ⟨_, rfl⟩
  go_upto_region 5 with fail
  have HX0 := hid (blkN w1 29 #[.slice AW n cW, .slice (some ⟨Cb, 0, none⟩) 2 2, .slice (some ⟨T0, 0, none⟩) 4 4] X hX)
  have BA := hid (bgo B1.out (bnew (bnil w1) (.cells #[.slice AW n cW, .slice (some ⟨Cb, 0, none⟩) 2 2, .slice (some ⟨T0, 0, none⟩) 4 4] 29)))
  have HM0 := hid (HM.out.below (bnew (bnil w1) (.cells #[.slice AW n cW, .slice (some ⟨Cb, 0, none⟩) 2 2, .slice (some ⟨T0, 0, none⟩) 4 4] 29)))
  have HWA := hid (own_below HW.out (bnew (bnil w1) (.cells #[.slice AW n cW, .slice (some ⟨Cb, 0, none⟩) 2 2, .slice (some ⟨T0, 0, none⟩) 4 4] 29)))
  have hXw : w.heap.size ≤ X := by rw [← hX]; exact B1.out.size
  try rw [hX]
  generalize World.alloc w1 _ = wA at *
  clear hX HM HW B1
  have HXa := hid (HX0.out.alloc (.cells #[.slice none 0 0, .slice none 0 0, .slice none 0 0] 33))
  have z2 := HXa.out.frozen 2
  have y2a : (wA.alloc (.cells #[.slice none 0 0, .slice none 0 0, .slice none 0 0] 33)).cell? ⟨X, 2, none⟩ = some (.slice (some ⟨T0, 0, none⟩) 4 4) := HXa.out.cell 2
  have hmk := mkT3 wA
  obtain ⟨T, hT⟩ : ∃ T, wA.heap.size = T := ⟨_, rfl⟩
  go_upto_region 6 with fail
  try rw [hT]
  obtain ⟨wE, hwE⟩ : ∃ wE, World.setCell (wA.alloc (.cells #[.slice none 0 0, .slice none 0 0, .slice none 0 0] 33)) ⟨X, 2, none⟩ (.slice (some ⟨T, 0, none⟩) 3 3) = wE := ⟨_, rfl⟩
  have HTB := hid (blkN wA 33 #[.slice none 0 0, .slice none 0 0, .slice none 0 0] T hT)
  rw [hwE]
  have BU := hid (show SBn w wE X Cb T 2 3 (.slice AW n cW) (List.replicate n (0 : Int)) cv (fun i => [nputCode, nscanCode n].getD i []) (fun _ => .slice none 0 0) (ath (4 * 0) 0 0) (fun _ => []) from by
    have hC : Chg (fun q => q = X) (wA.alloc (.cells #[.slice none 0 0, .slice none 0 0, .slice none 0 0] 33)) wE := by rw [← hwE]; exact (Chg.refl (fun q => q = X) _).setCell (p := ⟨X, 2, none⟩) (fun _ => rfl) _
    have bA := bnew (bnil wA) (.cells #[.slice none 0 0, .slice none 0 0, .slice none 0 0] 33)
    have ok : ∀ {B e sz n' : Nat} {v : Value} {xs : List Value}, e ≠ 29 → wA.ownsRow B e sz v n' xs → wE.ownsRow B e sz v n' xs := fun h1 h2 => own_chg (own_below h2 bA) hC fun q hq e => own_ne_blk (own_below h2 bA) HXa.out h1 (by rw [hq, e])
    have bk : ∀ {g t : Nat} {cs : Array Value}, t ≠ 29 → Blk (wA.alloc (.cells #[.slice none 0 0, .slice none 0 0, .slice none 0 0] 33)) g t cs → Blk wE g t cs := fun h1 h2 => hC.blk h2 fun e => by subst e; exact h1 (blk_ty h2 HXa.out)
    refine ⟨?_, ?_, ?_, ?_⟩
    · rw [← hwE]; exact (bgo BA.out bA).setCell (p := ⟨X, 2, none⟩) hXw _
    · rw [← hwE]; exact HXa.out.set_ 2 _
    · rw [List.length_replicate]; exact ok (by decide) HWA.out
    · rw [show 4 * 0 = 0 from rfl, ath_zero]
      exact MN.start (v := fun _ => undef) HM0.out.geC (by rw [← hT]; exact BA.out.size) (bk (by decide) (HM0.out.cb.alloc _)) (bk (by decide) HTB.out) (fun i hi => ok (by decide) (HM0.out.os i hi)))
  clear hwE HTB hmk y2a z2 HXa HX0 HM0 HWA hXw hT
  go_wp2_with fail
  go_loopw [10] (fun v wx => ∃ (i : Nat) (tv : Nat → Value) (av : Nat → List SV), i ≤ 5 ∧ v = .int .i64 i ∧ Hid (SBn w wx X Cb T 2 3 (.slice AW n cW) (List.replicate n (0 : Int)) cv (fun i => [nputCode, nscanCode n].getD i []) tv (ath (4 * i) 0 0) av)) (fun v _ => 5 - (intOf v).toNat)
  case atStart => exact ⟨0, _, _, Nat.zero_le _, rfl, BU⟩
  case round =>
    clear BU
    obtain ⟨i, tv, av, hi5, rfl, HX⟩ := hrel
    by_cases hlt : i < 5
    · have i1 : (i : Int) < 5 := by omega
      go_wp2_with fail
      go_loopw [11] (fun v wx => ∃ (k : Nat) (tv : Nat → Value) (av : Nat → List SV), k ≤ 4 ∧ v = .int .i64 k ∧ Hid (SBn w wx X Cb T 2 3 (.slice AW n cW) (List.replicate n (0 : Int)) cv (fun i => [nputCode, nscanCode n].getD i []) tv (ath (4 * i + k) 0 0) av)) (fun v _ => 4 - (intOf v).toNat)
      case atStart => exact ⟨0, _, _, Nat.zero_le _, rfl, HX⟩
      case round =>
        clear HX
        clear tv av
        obtain ⟨k, tv, av, hk4, rfl, HX⟩ := hrel
        by_cases hlk : k < 4
        · have i2 : (k : Int) < 4 := by omega
          rcases (show k = 0 ∨ k = 1 ∨ k = 2 ∨ k = 3 by omega) with rfl | rfl | rfl | rfl
          · have HAT := hid (show upd (ath (4 * i + 0) 0 0) 0 (ath (4 * i + 0) 0 0 0 ++ [⟨0, [(0 : Int), (1 : Int)]⟩]) = ath (4 * i + (0 + 1)) 0 0 by
              have h := ath_0 (4 * i + 0)
              rw [agp_at i (by decide), agv_at i (by decide)] at h
              exact h)
            have HLN := hid (show (ath (4 * i + 0) 0 0 0).length ≤ 20 from ath_len (by omega) (by decide) (by decide))
            have HOF := hid (show ∀ (LIT : Obj) (k' : Nat) (c : VCall) (a : SV), ([⟨0, [(0 : Int), (1 : Int)]⟩] : List VCall)[k']? = some c → ([⟨some ⟨wr.heap.size, 0, none⟩, 2, 2⟩] : List SV)[k']? = some a → (((wr.alloc (.cells #[.int .i64 (0 : Int), .int .i64 (1 : Int)] 3)).alloc LIT).drew).ownsRow w.heap.size 3 1 a.v c.args.length (c.args.flatMap gI) from by
              intro LIT k' c a hc ha
              have hge : w.heap.size ≤ wr.heap.size := HX.out.below.size
              match k', hc, ha with
              | 0, hc, ha =>
                injection hc with hc; injection ha with ha; subst hc ha
                have hB : Blk (((wr.alloc (.cells #[.int .i64 (0 : Int), .int .i64 (1 : Int)] 3)).alloc LIT).drew) (wr.heap.size) 3 #[.int .i64 (0 : Int), .int .i64 (1 : Int)] := (Blk.new wr _ _).alloc _
                exact ⟨rfl, .inr ⟨wr.heap.size, 2, #[.int .i64 (0 : Int), .int .i64 (1 : Int)], rfl, by omega, hB, Nat.le_refl _, by unfold maxLen; omega, rfl, rfl⟩⟩
              | k + 1, hc, ha => cases hc)
            obtain ⟨Aj, cj, hAj, HR0⟩ := HX.out.row (j := 0) (by omega)
            obtain ⟨L, hL⟩ : ∃ L, ((ath (4 * i + 0) 0 0) 0).length = L := ⟨_, rfl⟩
            rw [hL] at hAj HR0
            have hL18 : L ≤ 20 := by rw [← hL]; exact HLN.out
            obtain ⟨y, hy⟩ : ∃ y, ((ath (4 * i + 0) 0 0) 0).zip (av 0) ++ [((⟨0, [(0 : Int), (1 : Int)]⟩ : VCall), (⟨some ⟨wr.heap.size, 0, none⟩, 2, 2⟩ : SV))] = y := ⟨_, rfl⟩
            have HYE := hid hy
            have HYL := hid (show y.length = L + 1 by rw [← hy, List.length_append, HR0.len]; rfl)
            have HR := hid HR0
            have HAJ := hid hAj
            have c2x := HR.out.c2; have c3 := HR.out.c3; have f3 := HR.out.f3; have hcj := HR.out.hcj; have hcm := HR.out.hcm
            unfold maxLen at hcm
            clear hy HR0 hAj hL
            have ltT := World.block_lt_of_cell? wr _ c3
            have ltX := World.block_lt_of_cell? wr _ c2x
            have ltT1 : T < wr.heap.size + 1 := Nat.lt_succ_of_lt ltT
            have hq3 : ∀ o1 o2 : Obj, ((wr.alloc o1).alloc o2).cell? ⟨T, 0, none⟩ = some (.slice Aj L cj) := fun o1 o2 => cell_below (bnew (bnew (bnil wr) o1) o2) c3
            go_upto_region 18 with fail
            refine wp_region_held_drew (S := (fun w' => w'.cell? ⟨X, 2, none⟩ = some (.slice (some ⟨T, 0, none⟩) 3 3) ∧ w'.frozen? ⟨T, 0, none⟩ = false)) (by kernel_rfl) ?_ (fun hHeld => ?_)
            · (try dsimp only); (first | assumption | exact ⟨c2x, f3⟩ | exact HZ.1 | exact HZ.2.2 _ | (refine sees2f ?_ c2x c3 f3; (repeat (first | exact bnil _ | refine Below.drew ?_ | refine bnew ?_ _))))
            refine wpAnyH_take (i := 0) (oi := ⟨some 48, _, _, _, _, _⟩) (v := ?_) rfl (by kernel_rfl) (by kernel_rfl) (by kernel_rfl) (fun _ _ _ h => h) (Or.inl ⟨by rfl, ?_⟩) (by assumption) ?_
            rotate_left
            · intro w hSw; (try dsimp only at hSw); go_simp <;> with_reducible rfl
            try simp only [Act.put, List.setIfInBounds_toArray, List.set_cons_zero, List.set_cons_succ]
            refine wpAnyH_take (i := 1) (oi := ⟨some 49, _, _, _, _, _⟩) (v := ?_) rfl (by kernel_rfl) (by kernel_rfl) (by kernel_rfl) (fun _ _ _ h => h) (Or.inl ⟨by rfl, ?_⟩) (by assumption) ?_
            rotate_left
            · intro w hSw; (try dsimp only at hSw); go_simp <;> with_reducible rfl
            try simp only [Act.put, List.setIfInBounds_toArray, List.set_cons_zero, List.set_cons_succ]
            refine wpAnyH_take (i := 2) (oi := ⟨some 50, _, _, _, _, _⟩) (v := ?_) rfl (by kernel_rfl) (by kernel_rfl) (by kernel_rfl) (fun _ _ _ h => h) (Or.inl ⟨by rfl, ?_⟩) (by assumption) ?_
            rotate_left
            · intro w hSw; (try dsimp only at hSw); go_simp <;> with_reducible rfl
            try simp only [Act.put, List.setIfInBounds_toArray, List.set_cons_zero, List.set_cons_succ]
            refine wpAnyH_take (i := 3) (oi := ⟨some 51, _, _, _, _, _⟩) (v := ?_) rfl (by kernel_rfl) (by kernel_rfl) (by kernel_rfl) (fun _ _ _ h => h) (Or.inl ⟨by rfl, ?_⟩) (by assumption) ?_
            rotate_left
            · intro w hSw; (try dsimp only at hSw); go_simp <;> with_reducible rfl
            try simp only [Act.put, List.setIfInBounds_toArray, List.set_cons_zero, List.set_cons_succ]
            refine wpAnyH_take (i := 4) (oi := ⟨some 52, _, _, _, _, _⟩) (v := ?_) rfl (by kernel_rfl) (by kernel_rfl) (by kernel_rfl) (fun _ _ _ h => h) (Or.inl ⟨by rfl, ?_⟩) (by assumption) ?_
            rotate_left
            · intro w hSw; (try dsimp only at hSw); go_simp <;> with_reducible rfl
            try simp only [Act.put, List.setIfInBounds_toArray, List.set_cons_zero, List.set_cons_succ]
            refine wpAnyH_take (i := 6) (oi := ⟨some 54, _, _, _, _, _⟩) (v := ?_) rfl (by kernel_rfl) (by kernel_rfl) (by kernel_rfl) (fun _ _ _ h => h) (Or.inl ⟨by rfl, ?_⟩) (by assumption) ?_
            rotate_left
            · intro w hSw; (try dsimp only at hSw); go_simp <;> with_reducible rfl
            try simp only [Act.put, List.setIfInBounds_toArray, List.set_cons_zero, List.set_cons_succ]
            refine wpAnyH_take (i := 7) (oi := ⟨some 55, _, _, _, _, _⟩) (v := ?_) rfl (by kernel_rfl) (by kernel_rfl) (by kernel_rfl) (fun _ _ _ h => h) (Or.inl ⟨by rfl, ?_⟩) (by assumption) ?_
            rotate_left
            · intro w hSw; (try dsimp only at hSw); go_simp <;> with_reducible rfl
            try simp only [Act.put, List.setIfInBounds_toArray, List.set_cons_zero, List.set_cons_succ]
            refine wpAnyH_ready (rs := [5, 8]) (by kernel_rfl) (by simp) ?_
            refine AllReadyH.cons (o := ⟨some 53, _, _, _, _, _⟩) rfl (fun K hK => ?_) ?_
            go_simp
            refine hK.out _ _ ?_ (fun hHeld => ?_)
            · (try dsimp only); (first | assumption | exact ⟨c2x, f3⟩ | exact HZ.1 | exact HZ.2.2 _ | (refine sees2f ?_ c2x c3 f3; (repeat (first | exact bnil _ | refine Below.drew ?_ | refine bnew ?_ _))))
            clear hK K
            try simp only [Act.put, List.setIfInBounds_toArray, List.set_cons_zero, List.set_cons_succ]
            refine wpAnyH_ready (rs := [8]) (by kernel_rfl) (by simp) ?_
            refine AllReadyH.cons (o := ⟨some 56, _, _, _, _, _⟩) rfl (fun K hK => ?_) AllReadyH.nil
            go_simp
            refine hK.out _ _ ?_ (fun hHeld => ?_)
            · (try dsimp only); (first | assumption | exact ⟨c2x, f3⟩ | exact HZ.1 | exact HZ.2.2 _ | (refine sees2f ?_ c2x c3 f3; (repeat (first | exact bnil _ | refine Below.drew ?_ | refine bnew ?_ _))))
            clear hK K
            try simp only [Act.put, List.setIfInBounds_toArray, List.set_cons_zero, List.set_cons_succ]
            refine wpAnyH_take (i := 9) (oi := ⟨some 57, _, _, _, _, _⟩) (v := ?_) rfl (by kernel_rfl) (by kernel_rfl) (by kernel_rfl) (fun _ _ _ h => h) (Or.inl ⟨by rfl, ?_⟩) (by assumption) ?_
            rotate_left
            · intro w hSw; (try dsimp only at hSw); go_simp <;> with_reducible rfl
            try simp only [Act.put, List.setIfInBounds_toArray, List.set_cons_zero, List.set_cons_succ]
            refine wpAnyH_ready (rs := [10]) (by kernel_rfl) (by simp) ?_
            refine AllReadyH.cons (o := ⟨some 58, _, _, _, _, _⟩) rfl (fun K hK => ?_) AllReadyH.nil
            go_simp
            refine hK.out _ _ ?_ (fun hHeld => ?_)
            · (try dsimp only); (first | assumption | exact ⟨c2x, f3⟩ | exact HZ.1 | exact HZ.2.2 _ | (refine sees2f ?_ c2x c3 f3; (repeat (first | exact bnil _ | refine Below.drew ?_ | refine bnew ?_ _))))
            clear hK K
            try simp only [Act.put, List.setIfInBounds_toArray, List.set_cons_zero, List.set_cons_succ]
            refine wpAnyH_ready (rs := [11]) (by kernel_rfl) (by simp) ?_
            refine AllReadyH.cons (o := ⟨some 59, _, _, _, _, _⟩) rfl (fun K hK => ?_) AllReadyH.nil
            (refine step_appC elmCN gS_one rfl (.tmp 53) (.tmp 58) rfl (.slice Aj L cj) (((ath (4 * i + 0) 0 0) 0).zip (av 0)) rfl (HR.out.row _ (bnew (bnew (bnil _) _) _).drew) [((⟨0, [(0 : Int), (1 : Int)]⟩ : VCall), (⟨some ⟨wr.heap.size, 0, none⟩, 2, 2⟩ : SV))] y HYE rfl (Sl.drew (Sl.fresh' _ #[_, _] 35 2 1 _ (by simp) rfl)) rfl (by rw [HYL.out]; simp only [maxLen]; omega) (by rw [HYL.out]; omega) (Nat.le_trans HR.out.size (bnew (bnew (bnil _) _) _).drew.size) ?_; intro E6 c6 w6 hc6 hc7 HN6 HG6 HO6; have HZ := HR.out.grow _ w6 (bnew (bnew (bnil _) _) _).drew HG6.out)
            refine hK.out _ _ ?_ (fun hHeld => ?_)
            · (try dsimp only); (first | assumption | exact ⟨c2x, f3⟩ | exact HZ.1 | exact HZ.2.2 _ | (refine sees2f ?_ c2x c3 f3; (repeat (first | exact bnil _ | refine Below.drew ?_ | refine bnew ?_ _))))
            clear hK K
            try simp only [Act.put, List.setIfInBounds_toArray, List.set_cons_zero, List.set_cons_succ]
            refine wpAnyH_take (i := 12) (oi := ⟨some 60, _, _, _, _, _⟩) (v := ?_) rfl (by kernel_rfl) (by kernel_rfl) (by kernel_rfl) (fun _ _ _ h => h) (Or.inl ⟨by rfl, ?_⟩) (by assumption) ?_
            rotate_left
            · intro w hSw; (try dsimp only at hSw); go_simp <;> with_reducible rfl
            try simp only [Act.put, List.setIfInBounds_toArray, List.set_cons_zero, List.set_cons_succ]
            refine wpAnyH_ready (rs := [13]) (by kernel_rfl) (by simp) ?_
            refine AllReadyH.cons (o := ⟨none, _, _, _, _, _⟩) rfl (fun K hK => ?_) AllReadyH.nil
            go_simp
            refine hK.out _ _ ?_ (fun hHeld => ?_)
            · (try dsimp only); (first | assumption | exact ⟨c2x, f3⟩ | exact HZ.1 | exact HZ.2.2 _ | (refine sees2f ?_ c2x c3 f3; (repeat (first | exact bnil _ | refine Below.drew ?_ | refine bnew ?_ _))))
            clear hK K
            try dsimp only [Act.put]
            refine wpAnyH_done (by kernel_rfl) ?_ _
            rotate_left
            refine AllReadyH.cons (o := ⟨some 56, _, _, _, _, _⟩) rfl (fun K hK => ?_) AllReadyH.nil
            go_simp
            refine hK.out _ _ ?_ (fun hHeld => ?_)
            · (try dsimp only); (first | assumption | exact ⟨c2x, f3⟩ | exact HZ.1 | exact HZ.2.2 _ | (refine sees2f ?_ c2x c3 f3; (repeat (first | exact bnil _ | refine Below.drew ?_ | refine bnew ?_ _))))
            clear hK K
            try simp only [Act.put, List.setIfInBounds_toArray, List.set_cons_zero, List.set_cons_succ]
            refine wpAnyH_take (i := 9) (oi := ⟨some 57, _, _, _, _, _⟩) (v := ?_) rfl (by kernel_rfl) (by kernel_rfl) (by kernel_rfl) (fun _ _ _ h => h) (Or.inl ⟨by rfl, ?_⟩) (by assumption) ?_
            rotate_left
            · intro w hSw; (try dsimp only at hSw); go_simp <;> with_reducible rfl
            try simp only [Act.put, List.setIfInBounds_toArray, List.set_cons_zero, List.set_cons_succ]
            refine wpAnyH_ready (rs := [5, 10]) (by kernel_rfl) (by simp) ?_
            refine AllReadyH.cons (o := ⟨some 53, _, _, _, _, _⟩) rfl (fun K hK => ?_) ?_
            go_simp
            refine hK.out _ _ ?_ (fun hHeld => ?_)
            · (try dsimp only); (first | assumption | exact ⟨c2x, f3⟩ | exact HZ.1 | exact HZ.2.2 _ | (refine sees2f ?_ c2x c3 f3; (repeat (first | exact bnil _ | refine Below.drew ?_ | refine bnew ?_ _))))
            clear hK K
            try simp only [Act.put, List.setIfInBounds_toArray, List.set_cons_zero, List.set_cons_succ]
            refine wpAnyH_ready (rs := [10]) (by kernel_rfl) (by simp) ?_
            refine AllReadyH.cons (o := ⟨some 58, _, _, _, _, _⟩) rfl (fun K hK => ?_) AllReadyH.nil
            go_simp
            refine hK.out _ _ ?_ (fun hHeld => ?_)
            · (try dsimp only); (first | assumption | exact ⟨c2x, f3⟩ | exact HZ.1 | exact HZ.2.2 _ | (refine sees2f ?_ c2x c3 f3; (repeat (first | exact bnil _ | refine Below.drew ?_ | refine bnew ?_ _))))
            clear hK K
            try simp only [Act.put, List.setIfInBounds_toArray, List.set_cons_zero, List.set_cons_succ]
            refine wpAnyH_ready (rs := [11]) (by kernel_rfl) (by simp) ?_
            refine AllReadyH.cons (o := ⟨some 59, _, _, _, _, _⟩) rfl (fun K hK => ?_) AllReadyH.nil
            (refine step_appC elmCN gS_one rfl (.tmp 53) (.tmp 58) rfl (.slice Aj L cj) (((ath (4 * i + 0) 0 0) 0).zip (av 0)) rfl (HR.out.row _ (bnew (bnew (bnil _) _) _).drew) [((⟨0, [(0 : Int), (1 : Int)]⟩ : VCall), (⟨some ⟨wr.heap.size, 0, none⟩, 2, 2⟩ : SV))] y HYE rfl (Sl.drew (Sl.fresh' _ #[_, _] 35 2 1 _ (by simp) rfl)) rfl (by rw [HYL.out]; simp only [maxLen]; omega) (by rw [HYL.out]; omega) (Nat.le_trans HR.out.size (bnew (bnew (bnil _) _) _).drew.size) ?_; intro E6 c6 w6 hc6 hc7 HN6 HG6 HO6; have HZ := HR.out.grow _ w6 (bnew (bnew (bnil _) _) _).drew HG6.out)
            refine hK.out _ _ ?_ (fun hHeld => ?_)
            · (try dsimp only); (first | assumption | exact ⟨c2x, f3⟩ | exact HZ.1 | exact HZ.2.2 _ | (refine sees2f ?_ c2x c3 f3; (repeat (first | exact bnil _ | refine Below.drew ?_ | refine bnew ?_ _))))
            clear hK K
            try simp only [Act.put, List.setIfInBounds_toArray, List.set_cons_zero, List.set_cons_succ]
            refine wpAnyH_take (i := 12) (oi := ⟨some 60, _, _, _, _, _⟩) (v := ?_) rfl (by kernel_rfl) (by kernel_rfl) (by kernel_rfl) (fun _ _ _ h => h) (Or.inl ⟨by rfl, ?_⟩) (by assumption) ?_
            rotate_left
            · intro w hSw; (try dsimp only at hSw); go_simp <;> with_reducible rfl
            try simp only [Act.put, List.setIfInBounds_toArray, List.set_cons_zero, List.set_cons_succ]
            refine wpAnyH_ready (rs := [13]) (by kernel_rfl) (by simp) ?_
            refine AllReadyH.cons (o := ⟨none, _, _, _, _, _⟩) rfl (fun K hK => ?_) AllReadyH.nil
            go_simp
            refine hK.out _ _ ?_ (fun hHeld => ?_)
            · (try dsimp only); (first | assumption | exact ⟨c2x, f3⟩ | exact HZ.1 | exact HZ.2.2 _ | (refine sees2f ?_ c2x c3 f3; (repeat (first | exact bnil _ | refine Below.drew ?_ | refine bnew ?_ _))))
            clear hK K
            try dsimp only [Act.put]
            refine wpAnyH_done (by kernel_rfl) ?_ _
            rotate_left
            refine AllReadyH.cons (o := ⟨some 58, _, _, _, _, _⟩) rfl (fun K hK => ?_) AllReadyH.nil
            go_simp
            refine hK.out _ _ ?_ (fun hHeld => ?_)
            · (try dsimp only); (first | assumption | exact ⟨c2x, f3⟩ | exact HZ.1 | exact HZ.2.2 _ | (refine sees2f ?_ c2x c3 f3; (repeat (first | exact bnil _ | refine Below.drew ?_ | refine bnew ?_ _))))
            clear hK K
            try simp only [Act.put, List.setIfInBounds_toArray, List.set_cons_zero, List.set_cons_succ]
            refine wpAnyH_ready (rs := [5]) (by kernel_rfl) (by simp) ?_
            refine AllReadyH.cons (o := ⟨some 53, _, _, _, _, _⟩) rfl (fun K hK => ?_) AllReadyH.nil
            go_simp
            refine hK.out _ _ ?_ (fun hHeld => ?_)
            · (try dsimp only); (first | assumption | exact ⟨c2x, f3⟩ | exact HZ.1 | exact HZ.2.2 _ | (refine sees2f ?_ c2x c3 f3; (repeat (first | exact bnil _ | refine Below.drew ?_ | refine bnew ?_ _))))
            clear hK K
            try simp only [Act.put, List.setIfInBounds_toArray, List.set_cons_zero, List.set_cons_succ]
            refine wpAnyH_ready (rs := [11]) (by kernel_rfl) (by simp) ?_
            refine AllReadyH.cons (o := ⟨some 59, _, _, _, _, _⟩) rfl (fun K hK => ?_) AllReadyH.nil
            (refine step_appC elmCN gS_one rfl (.tmp 53) (.tmp 58) rfl (.slice Aj L cj) (((ath (4 * i + 0) 0 0) 0).zip (av 0)) rfl (HR.out.row _ (bnew (bnew (bnil _) _) _).drew) [((⟨0, [(0 : Int), (1 : Int)]⟩ : VCall), (⟨some ⟨wr.heap.size, 0, none⟩, 2, 2⟩ : SV))] y HYE rfl (Sl.drew (Sl.fresh' _ #[_, _] 35 2 1 _ (by simp) rfl)) rfl (by rw [HYL.out]; simp only [maxLen]; omega) (by rw [HYL.out]; omega) (Nat.le_trans HR.out.size (bnew (bnew (bnil _) _) _).drew.size) ?_; intro E6 c6 w6 hc6 hc7 HN6 HG6 HO6; have HZ := HR.out.grow _ w6 (bnew (bnew (bnil _) _) _).drew HG6.out)
            refine hK.out _ _ ?_ (fun hHeld => ?_)
            · (try dsimp only); (first | assumption | exact ⟨c2x, f3⟩ | exact HZ.1 | exact HZ.2.2 _ | (refine sees2f ?_ c2x c3 f3; (repeat (first | exact bnil _ | refine Below.drew ?_ | refine bnew ?_ _))))
            clear hK K
            try simp only [Act.put, List.setIfInBounds_toArray, List.set_cons_zero, List.set_cons_succ]
            refine wpAnyH_take (i := 12) (oi := ⟨some 60, _, _, _, _, _⟩) (v := ?_) rfl (by kernel_rfl) (by kernel_rfl) (by kernel_rfl) (fun _ _ _ h => h) (Or.inl ⟨by rfl, ?_⟩) (by assumption) ?_
            rotate_left
            · intro w hSw; (try dsimp only at hSw); go_simp <;> with_reducible rfl
            try simp only [Act.put, List.setIfInBounds_toArray, List.set_cons_zero, List.set_cons_succ]
            refine wpAnyH_ready (rs := [13]) (by kernel_rfl) (by simp) ?_
            refine AllReadyH.cons (o := ⟨none, _, _, _, _, _⟩) rfl (fun K hK => ?_) AllReadyH.nil
            go_simp
            refine hK.out _ _ ?_ (fun hHeld => ?_)
            · (try dsimp only); (first | assumption | exact ⟨c2x, f3⟩ | exact HZ.1 | exact HZ.2.2 _ | (refine sees2f ?_ c2x c3 f3; (repeat (first | exact bnil _ | refine Below.drew ?_ | refine bnew ?_ _))))
            clear hK K
            try dsimp only [Act.put]
            refine wpAnyH_done (by kernel_rfl) ?_ _
            rotate_left
            all_goals
              have HF := hid (HX.out.app (j := 0) (by omega) [⟨0, [(0 : Int), (1 : Int)]⟩] [⟨some ⟨wr.heap.size, 0, none⟩, 2, 2⟩] (bnew (bnew (bnil _) _) _).drew rfl (HOF.out _) HYE.out (by rw [HAJ.out]; exact HG6.out) (by rw [HAJ.out]; exact HO6.out) HN6.out)
              go_wp2_with fail
              go_roundw
              case rel => exact ⟨0 + 1, _, _, by omega, by first | rfl | go_num, hid (by have h1 := HF.out; rw [HAT.out] at h1; exact h1)⟩
              case measure => simp [intOf]
          · have HAT := hid (show upd (ath (4 * i + 1) 0 0) 0 (ath (4 * i + 1) 0 0 0 ++ [⟨0, [(1 : Int), (1 : Int)]⟩]) = ath (4 * i + (1 + 1)) 0 0 by
              have h := ath_0 (4 * i + 1)
              rw [agp_at i (by decide), agv_at i (by decide)] at h
              exact h)
            have HLN := hid (show (ath (4 * i + 1) 0 0 0).length ≤ 20 from ath_len (by omega) (by decide) (by decide))
            have HOF := hid (show ∀ (LIT : Obj) (k' : Nat) (c : VCall) (a : SV), ([⟨0, [(1 : Int), (1 : Int)]⟩] : List VCall)[k']? = some c → ([⟨some ⟨wr.heap.size, 0, none⟩, 2, 2⟩] : List SV)[k']? = some a → (((wr.alloc (.cells #[.int .i64 (1 : Int), .int .i64 (1 : Int)] 3)).alloc LIT).drew).ownsRow w.heap.size 3 1 a.v c.args.length (c.args.flatMap gI) from by
              intro LIT k' c a hc ha
              have hge : w.heap.size ≤ wr.heap.size := HX.out.below.size
              match k', hc, ha with
              | 0, hc, ha =>
                injection hc with hc; injection ha with ha; subst hc ha
                have hB : Blk (((wr.alloc (.cells #[.int .i64 (1 : Int), .int .i64 (1 : Int)] 3)).alloc LIT).drew) (wr.heap.size) 3 #[.int .i64 (1 : Int), .int .i64 (1 : Int)] := (Blk.new wr _ _).alloc _
                exact ⟨rfl, .inr ⟨wr.heap.size, 2, #[.int .i64 (1 : Int), .int .i64 (1 : Int)], rfl, by omega, hB, Nat.le_refl _, by unfold maxLen; omega, rfl, rfl⟩⟩
              | k + 1, hc, ha => cases hc)
            obtain ⟨Aj, cj, hAj, HR0⟩ := HX.out.row (j := 0) (by omega)
            obtain ⟨L, hL⟩ : ∃ L, ((ath (4 * i + 1) 0 0) 0).length = L := ⟨_, rfl⟩
            rw [hL] at hAj HR0
            have hL18 : L ≤ 20 := by rw [← hL]; exact HLN.out
            obtain ⟨y, hy⟩ : ∃ y, ((ath (4 * i + 1) 0 0) 0).zip (av 0) ++ [((⟨0, [(1 : Int), (1 : Int)]⟩ : VCall), (⟨some ⟨wr.heap.size, 0, none⟩, 2, 2⟩ : SV))] = y := ⟨_, rfl⟩
            have HYE := hid hy
            have HYL := hid (show y.length = L + 1 by rw [← hy, List.length_append, HR0.len]; rfl)
            have HR := hid HR0
            have HAJ := hid hAj
            have c2x := HR.out.c2; have c3 := HR.out.c3; have f3 := HR.out.f3; have hcj := HR.out.hcj; have hcm := HR.out.hcm
            unfold maxLen at hcm
            clear hy HR0 hAj hL
            have ltT := World.block_lt_of_cell? wr _ c3
            have ltX := World.block_lt_of_cell? wr _ c2x
            have ltT1 : T < wr.heap.size + 1 := Nat.lt_succ_of_lt ltT
            have hq3 : ∀ o1 o2 : Obj, ((wr.alloc o1).alloc o2).cell? ⟨T, 0, none⟩ = some (.slice Aj L cj) := fun o1 o2 => cell_below (bnew (bnew (bnil wr) o1) o2) c3
            go_upto_region 18 with fail
            refine wp_region_held_drew (S := (fun w' => w'.cell? ⟨X, 2, none⟩ = some (.slice (some ⟨T, 0, none⟩) 3 3) ∧ w'.frozen? ⟨T, 0, none⟩ = false)) (by kernel_rfl) ?_ (fun hHeld => ?_)
            · (try dsimp only); (first | assumption | exact ⟨c2x, f3⟩ | exact HZ.1 | exact HZ.2.2 _ | (refine sees2f ?_ c2x c3 f3; (repeat (first | exact bnil _ | refine Below.drew ?_ | refine bnew ?_ _))))
            refine wpAnyH_take (i := 0) (oi := ⟨some 48, _, _, _, _, _⟩) (v := ?_) rfl (by kernel_rfl) (by kernel_rfl) (by kernel_rfl) (fun _ _ _ h => h) (Or.inl ⟨by rfl, ?_⟩) (by assumption) ?_
            rotate_left
            · intro w hSw; (try dsimp only at hSw); go_simp <;> with_reducible rfl
            try simp only [Act.put, List.setIfInBounds_toArray, List.set_cons_zero, List.set_cons_succ]
            refine wpAnyH_take (i := 1) (oi := ⟨some 49, _, _, _, _, _⟩) (v := ?_) rfl (by kernel_rfl) (by kernel_rfl) (by kernel_rfl) (fun _ _ _ h => h) (Or.inl ⟨by rfl, ?_⟩) (by assumption) ?_
            rotate_left
            · intro w hSw; (try dsimp only at hSw); go_simp <;> with_reducible rfl
            try simp only [Act.put, List.setIfInBounds_toArray, List.set_cons_zero, List.set_cons_succ]
            refine wpAnyH_take (i := 2) (oi := ⟨some 50, _, _, _, _, _⟩) (v := ?_) rfl (by kernel_rfl) (by kernel_rfl) (by kernel_rfl) (fun _ _ _ h => h) (Or.inl ⟨by rfl, ?_⟩) (by assumption) ?_
            rotate_left
            · intro w hSw; (try dsimp only at hSw); go_simp <;> with_reducible rfl
            try simp only [Act.put, List.setIfInBounds_toArray, List.set_cons_zero, List.set_cons_succ]
            refine wpAnyH_take (i := 3) (oi := ⟨some 51, _, _, _, _, _⟩) (v := ?_) rfl (by kernel_rfl) (by kernel_rfl) (by kernel_rfl) (fun _ _ _ h => h) (Or.inl ⟨by rfl, ?_⟩) (by assumption) ?_
            rotate_left
            · intro w hSw; (try dsimp only at hSw); go_simp <;> with_reducible rfl
            try simp only [Act.put, List.setIfInBounds_toArray, List.set_cons_zero, List.set_cons_succ]
            refine wpAnyH_take (i := 4) (oi := ⟨some 52, _, _, _, _, _⟩) (v := ?_) rfl (by kernel_rfl) (by kernel_rfl) (by kernel_rfl) (fun _ _ _ h => h) (Or.inl ⟨by rfl, ?_⟩) (by assumption) ?_
            rotate_left
            · intro w hSw; (try dsimp only at hSw); go_simp <;> with_reducible rfl
            try simp only [Act.put, List.setIfInBounds_toArray, List.set_cons_zero, List.set_cons_succ]
            refine wpAnyH_take (i := 6) (oi := ⟨some 54, _, _, _, _, _⟩) (v := ?_) rfl (by kernel_rfl) (by kernel_rfl) (by kernel_rfl) (fun _ _ _ h => h) (Or.inl ⟨by rfl, ?_⟩) (by assumption) ?_
            rotate_left
            · intro w hSw; (try dsimp only at hSw); go_simp <;> with_reducible rfl
            try simp only [Act.put, List.setIfInBounds_toArray, List.set_cons_zero, List.set_cons_succ]
            refine wpAnyH_take (i := 7) (oi := ⟨some 55, _, _, _, _, _⟩) (v := ?_) rfl (by kernel_rfl) (by kernel_rfl) (by kernel_rfl) (fun _ _ _ h => h) (Or.inl ⟨by rfl, ?_⟩) (by assumption) ?_
            rotate_left
            · intro w hSw; (try dsimp only at hSw); go_simp <;> with_reducible rfl
            try simp only [Act.put, List.setIfInBounds_toArray, List.set_cons_zero, List.set_cons_succ]
            refine wpAnyH_ready (rs := [5, 8]) (by kernel_rfl) (by simp) ?_
            refine AllReadyH.cons (o := ⟨some 53, _, _, _, _, _⟩) rfl (fun K hK => ?_) ?_
            go_simp
            refine hK.out _ _ ?_ (fun hHeld => ?_)
            · (try dsimp only); (first | assumption | exact ⟨c2x, f3⟩ | exact HZ.1 | exact HZ.2.2 _ | (refine sees2f ?_ c2x c3 f3; (repeat (first | exact bnil _ | refine Below.drew ?_ | refine bnew ?_ _))))
            clear hK K
            try simp only [Act.put, List.setIfInBounds_toArray, List.set_cons_zero, List.set_cons_succ]
            refine wpAnyH_ready (rs := [8]) (by kernel_rfl) (by simp) ?_
            refine AllReadyH.cons (o := ⟨some 56, _, _, _, _, _⟩) rfl (fun K hK => ?_) AllReadyH.nil
            go_simp
            refine hK.out _ _ ?_ (fun hHeld => ?_)
            · (try dsimp only); (first | assumption | exact ⟨c2x, f3⟩ | exact HZ.1 | exact HZ.2.2 _ | (refine sees2f ?_ c2x c3 f3; (repeat (first | exact bnil _ | refine Below.drew ?_ | refine bnew ?_ _))))
            clear hK K
            try simp only [Act.put, List.setIfInBounds_toArray, List.set_cons_zero, List.set_cons_succ]
            refine wpAnyH_take (i := 9) (oi := ⟨some 57, _, _, _, _, _⟩) (v := ?_) rfl (by kernel_rfl) (by kernel_rfl) (by kernel_rfl) (fun _ _ _ h => h) (Or.inl ⟨by rfl, ?_⟩) (by assumption) ?_
            rotate_left
            · intro w hSw; (try dsimp only at hSw); go_simp <;> with_reducible rfl
            try simp only [Act.put, List.setIfInBounds_toArray, List.set_cons_zero, List.set_cons_succ]
            refine wpAnyH_ready (rs := [10]) (by kernel_rfl) (by simp) ?_
            refine AllReadyH.cons (o := ⟨some 58, _, _, _, _, _⟩) rfl (fun K hK => ?_) AllReadyH.nil
            go_simp
            refine hK.out _ _ ?_ (fun hHeld => ?_)
            · (try dsimp only); (first | assumption | exact ⟨c2x, f3⟩ | exact HZ.1 | exact HZ.2.2 _ | (refine sees2f ?_ c2x c3 f3; (repeat (first | exact bnil _ | refine Below.drew ?_ | refine bnew ?_ _))))
            clear hK K
            try simp only [Act.put, List.setIfInBounds_toArray, List.set_cons_zero, List.set_cons_succ]
            refine wpAnyH_ready (rs := [11]) (by kernel_rfl) (by simp) ?_
            refine AllReadyH.cons (o := ⟨some 59, _, _, _, _, _⟩) rfl (fun K hK => ?_) AllReadyH.nil
            (refine step_appC elmCN gS_one rfl (.tmp 53) (.tmp 58) rfl (.slice Aj L cj) (((ath (4 * i + 1) 0 0) 0).zip (av 0)) rfl (HR.out.row _ (bnew (bnew (bnil _) _) _).drew) [((⟨0, [(1 : Int), (1 : Int)]⟩ : VCall), (⟨some ⟨wr.heap.size, 0, none⟩, 2, 2⟩ : SV))] y HYE rfl (Sl.drew (Sl.fresh' _ #[_, _] 35 2 1 _ (by simp) rfl)) rfl (by rw [HYL.out]; simp only [maxLen]; omega) (by rw [HYL.out]; omega) (Nat.le_trans HR.out.size (bnew (bnew (bnil _) _) _).drew.size) ?_; intro E6 c6 w6 hc6 hc7 HN6 HG6 HO6; have HZ := HR.out.grow _ w6 (bnew (bnew (bnil _) _) _).drew HG6.out)
            refine hK.out _ _ ?_ (fun hHeld => ?_)
            · (try dsimp only); (first | assumption | exact ⟨c2x, f3⟩ | exact HZ.1 | exact HZ.2.2 _ | (refine sees2f ?_ c2x c3 f3; (repeat (first | exact bnil _ | refine Below.drew ?_ | refine bnew ?_ _))))
            clear hK K
            try simp only [Act.put, List.setIfInBounds_toArray, List.set_cons_zero, List.set_cons_succ]
            refine wpAnyH_take (i := 12) (oi := ⟨some 60, _, _, _, _, _⟩) (v := ?_) rfl (by kernel_rfl) (by kernel_rfl) (by kernel_rfl) (fun _ _ _ h => h) (Or.inl ⟨by rfl, ?_⟩) (by assumption) ?_
            rotate_left
            · intro w hSw; (try dsimp only at hSw); go_simp <;> with_reducible rfl
            try simp only [Act.put, List.setIfInBounds_toArray, List.set_cons_zero, List.set_cons_succ]
            refine wpAnyH_ready (rs := [13]) (by kernel_rfl) (by simp) ?_
            refine AllReadyH.cons (o := ⟨none, _, _, _, _, _⟩) rfl (fun K hK => ?_) AllReadyH.nil
            go_simp
            refine hK.out _ _ ?_ (fun hHeld => ?_)
            · (try dsimp only); (first | assumption | exact ⟨c2x, f3⟩ | exact HZ.1 | exact HZ.2.2 _ | (refine sees2f ?_ c2x c3 f3; (repeat (first | exact bnil _ | refine Below.drew ?_ | refine bnew ?_ _))))
            clear hK K
            try dsimp only [Act.put]
            refine wpAnyH_done (by kernel_rfl) ?_ _
            rotate_left
            refine AllReadyH.cons (o := ⟨some 56, _, _, _, _, _⟩) rfl (fun K hK => ?_) AllReadyH.nil
            go_simp
            refine hK.out _ _ ?_ (fun hHeld => ?_)
            · (try dsimp only); (first | assumption | exact ⟨c2x, f3⟩ | exact HZ.1 | exact HZ.2.2 _ | (refine sees2f ?_ c2x c3 f3; (repeat (first | exact bnil _ | refine Below.drew ?_ | refine bnew ?_ _))))
            clear hK K
            try simp only [Act.put, List.setIfInBounds_toArray, List.set_cons_zero, List.set_cons_succ]
            refine wpAnyH_take (i := 9) (oi := ⟨some 57, _, _, _, _, _⟩) (v := ?_) rfl (by kernel_rfl) (by kernel_rfl) (by kernel_rfl) (fun _ _ _ h => h) (Or.inl ⟨by rfl, ?_⟩) (by assumption) ?_
            rotate_left
            · intro w hSw; (try dsimp only at hSw); go_simp <;> with_reducible rfl
            try simp only [Act.put, List.setIfInBounds_toArray, List.set_cons_zero, List.set_cons_succ]
            refine wpAnyH_ready (rs := [5, 10]) (by kernel_rfl) (by simp) ?_
            refine AllReadyH.cons (o := ⟨some 53, _, _, _, _, _⟩) rfl (fun K hK => ?_) ?_
            go_simp
            refine hK.out _ _ ?_ (fun hHeld => ?_)
            · (try dsimp only); (first | assumption | exact ⟨c2x, f3⟩ | exact HZ.1 | exact HZ.2.2 _ | (refine sees2f ?_ c2x c3 f3; (repeat (first | exact bnil _ | refine Below.drew ?_ | refine bnew ?_ _))))
            clear hK K
            try simp only [Act.put, List.setIfInBounds_toArray, List.set_cons_zero, List.set_cons_succ]
            refine wpAnyH_ready (rs := [10]) (by kernel_rfl) (by simp) ?_
            refine AllReadyH.cons (o := ⟨some 58, _, _, _, _, _⟩) rfl (fun K hK => ?_) AllReadyH.nil
            go_simp
            refine hK.out _ _ ?_ (fun hHeld => ?_)
            · (try dsimp only); (first | assumption | exact ⟨c2x, f3⟩ | exact HZ.1 | exact HZ.2.2 _ | (refine sees2f ?_ c2x c3 f3; (repeat (first | exact bnil _ | refine Below.drew ?_ | refine bnew ?_ _))))
            clear hK K
            try simp only [Act.put, List.setIfInBounds_toArray, List.set_cons_zero, List.set_cons_succ]
            refine wpAnyH_ready (rs := [11]) (by kernel_rfl) (by simp) ?_
            refine AllReadyH.cons (o := ⟨some 59, _, _, _, _, _⟩) rfl (fun K hK => ?_) AllReadyH.nil
            (refine step_appC elmCN gS_one rfl (.tmp 53) (.tmp 58) rfl (.slice Aj L cj) (((ath (4 * i + 1) 0 0) 0).zip (av 0)) rfl (HR.out.row _ (bnew (bnew (bnil _) _) _).drew) [((⟨0, [(1 : Int), (1 : Int)]⟩ : VCall), (⟨some ⟨wr.heap.size, 0, none⟩, 2, 2⟩ : SV))] y HYE rfl (Sl.drew (Sl.fresh' _ #[_, _] 35 2 1 _ (by simp) rfl)) rfl (by rw [HYL.out]; simp only [maxLen]; omega) (by rw [HYL.out]; omega) (Nat.le_trans HR.out.size (bnew (bnew (bnil _) _) _).drew.size) ?_; intro E6 c6 w6 hc6 hc7 HN6 HG6 HO6; have HZ := HR.out.grow _ w6 (bnew (bnew (bnil _) _) _).drew HG6.out)
            refine hK.out _ _ ?_ (fun hHeld => ?_)
            · (try dsimp only); (first | assumption | exact ⟨c2x, f3⟩ | exact HZ.1 | exact HZ.2.2 _ | (refine sees2f ?_ c2x c3 f3; (repeat (first | exact bnil _ | refine Below.drew ?_ | refine bnew ?_ _))))
            clear hK K
            try simp only [Act.put, List.setIfInBounds_toArray, List.set_cons_zero, List.set_cons_succ]
            refine wpAnyH_take (i := 12) (oi := ⟨some 60, _, _, _, _, _⟩) (v := ?_) rfl (by kernel_rfl) (by kernel_rfl) (by kernel_rfl) (fun _ _ _ h => h) (Or.inl ⟨by rfl, ?_⟩) (by assumption) ?_
            rotate_left
            · intro w hSw; (try dsimp only at hSw); go_simp <;> with_reducible rfl
            try simp only [Act.put, List.setIfInBounds_toArray, List.set_cons_zero, List.set_cons_succ]
            refine wpAnyH_ready (rs := [13]) (by kernel_rfl) (by simp) ?_
            refine AllReadyH.cons (o := ⟨none, _, _, _, _, _⟩) rfl (fun K hK => ?_) AllReadyH.nil
            go_simp
            refine hK.out _ _ ?_ (fun hHeld => ?_)
            · (try dsimp only); (first | assumption | exact ⟨c2x, f3⟩ | exact HZ.1 | exact HZ.2.2 _ | (refine sees2f ?_ c2x c3 f3; (repeat (first | exact bnil _ | refine Below.drew ?_ | refine bnew ?_ _))))
            clear hK K
            try dsimp only [Act.put]
            refine wpAnyH_done (by kernel_rfl) ?_ _
            rotate_left
            refine AllReadyH.cons (o := ⟨some 58, _, _, _, _, _⟩) rfl (fun K hK => ?_) AllReadyH.nil
            go_simp
            refine hK.out _ _ ?_ (fun hHeld => ?_)
            · (try dsimp only); (first | assumption | exact ⟨c2x, f3⟩ | exact HZ.1 | exact HZ.2.2 _ | (refine sees2f ?_ c2x c3 f3; (repeat (first | exact bnil _ | refine Below.drew ?_ | refine bnew ?_ _))))
            clear hK K
            try simp only [Act.put, List.setIfInBounds_toArray, List.set_cons_zero, List.set_cons_succ]
            refine wpAnyH_ready (rs := [5]) (by kernel_rfl) (by simp) ?_
            refine AllReadyH.cons (o := ⟨some 53, _, _, _, _, _⟩) rfl (fun K hK => ?_) AllReadyH.nil
            go_simp
            refine hK.out _ _ ?_ (fun hHeld => ?_)
            · (try dsimp only); (first | assumption | exact ⟨c2x, f3⟩ | exact HZ.1 | exact HZ.2.2 _ | (refine sees2f ?_ c2x c3 f3; (repeat (first | exact bnil _ | refine Below.drew ?_ | refine bnew ?_ _))))
            clear hK K
            try simp only [Act.put, List.setIfInBounds_toArray, List.set_cons_zero, List.set_cons_succ]
            refine wpAnyH_ready (rs := [11]) (by kernel_rfl) (by simp) ?_
            refine AllReadyH.cons (o := ⟨some 59, _, _, _, _, _⟩) rfl (fun K hK => ?_) AllReadyH.nil
            (refine step_appC elmCN gS_one rfl (.tmp 53) (.tmp 58) rfl (.slice Aj L cj) (((ath (4 * i + 1) 0 0) 0).zip (av 0)) rfl (HR.out.row _ (bnew (bnew (bnil _) _) _).drew) [((⟨0, [(1 : Int), (1 : Int)]⟩ : VCall), (⟨some ⟨wr.heap.size, 0, none⟩, 2, 2⟩ : SV))] y HYE rfl (Sl.drew (Sl.fresh' _ #[_, _] 35 2 1 _ (by simp) rfl)) rfl (by rw [HYL.out]; simp only [maxLen]; omega) (by rw [HYL.out]; omega) (Nat.le_trans HR.out.size (bnew (bnew (bnil _) _) _).drew.size) ?_; intro E6 c6 w6 hc6 hc7 HN6 HG6 HO6; have HZ := HR.out.grow _ w6 (bnew (bnew (bnil _) _) _).drew HG6.out)
            refine hK.out _ _ ?_ (fun hHeld => ?_)
            · (try dsimp only); (first | assumption | exact ⟨c2x, f3⟩ | exact HZ.1 | exact HZ.2.2 _ | (refine sees2f ?_ c2x c3 f3; (repeat (first | exact bnil _ | refine Below.drew ?_ | refine bnew ?_ _))))
            clear hK K
            try simp only [Act.put, List.setIfInBounds_toArray, List.set_cons_zero, List.set_cons_succ]
            refine wpAnyH_take (i := 12) (oi := ⟨some 60, _, _, _, _, _⟩) (v := ?_) rfl (by kernel_rfl) (by kernel_rfl) (by kernel_rfl) (fun _ _ _ h => h) (Or.inl ⟨by rfl, ?_⟩) (by assumption) ?_
            rotate_left
            · intro w hSw; (try dsimp only at hSw); go_simp <;> with_reducible rfl
            try simp only [Act.put, List.setIfInBounds_toArray, List.set_cons_zero, List.set_cons_succ]
            refine wpAnyH_ready (rs := [13]) (by kernel_rfl) (by simp) ?_
            refine AllReadyH.cons (o := ⟨none, _, _, _, _, _⟩) rfl (fun K hK => ?_) AllReadyH.nil
            go_simp
            refine hK.out _ _ ?_ (fun hHeld => ?_)
            · (try dsimp only); (first | assumption | exact ⟨c2x, f3⟩ | exact HZ.1 | exact HZ.2.2 _ | (refine sees2f ?_ c2x c3 f3; (repeat (first | exact bnil _ | refine Below.drew ?_ | refine bnew ?_ _))))
            clear hK K
            try dsimp only [Act.put]
            refine wpAnyH_done (by kernel_rfl) ?_ _
            rotate_left
            all_goals
              have HF := hid (HX.out.app (j := 0) (by omega) [⟨0, [(1 : Int), (1 : Int)]⟩] [⟨some ⟨wr.heap.size, 0, none⟩, 2, 2⟩] (bnew (bnew (bnil _) _) _).drew rfl (HOF.out _) HYE.out (by rw [HAJ.out]; exact HG6.out) (by rw [HAJ.out]; exact HO6.out) HN6.out)
              go_wp2_with fail
              go_roundw
              case rel => exact ⟨1 + 1, _, _, by omega, by first | rfl | go_num, hid (by have h1 := HF.out; rw [HAT.out] at h1; exact h1)⟩
              case measure => simp [intOf]
          · have HAT := hid (show upd (ath (4 * i + 2) 0 0) 0 (ath (4 * i + 2) 0 0 0 ++ [⟨0, [(1 : Int), (0 : Int)]⟩]) = ath (4 * i + (2 + 1)) 0 0 by
              have h := ath_0 (4 * i + 2)
              rw [agp_at i (by decide), agv_at i (by decide)] at h
              exact h)
            have HLN := hid (show (ath (4 * i + 2) 0 0 0).length ≤ 20 from ath_len (by omega) (by decide) (by decide))
            have HOF := hid (show ∀ (LIT : Obj) (k' : Nat) (c : VCall) (a : SV), ([⟨0, [(1 : Int), (0 : Int)]⟩] : List VCall)[k']? = some c → ([⟨some ⟨wr.heap.size, 0, none⟩, 2, 2⟩] : List SV)[k']? = some a → (((wr.alloc (.cells #[.int .i64 (1 : Int), .int .i64 (0 : Int)] 3)).alloc LIT).drew).ownsRow w.heap.size 3 1 a.v c.args.length (c.args.flatMap gI) from by
              intro LIT k' c a hc ha
              have hge : w.heap.size ≤ wr.heap.size := HX.out.below.size
              match k', hc, ha with
              | 0, hc, ha =>
                injection hc with hc; injection ha with ha; subst hc ha
                have hB : Blk (((wr.alloc (.cells #[.int .i64 (1 : Int), .int .i64 (0 : Int)] 3)).alloc LIT).drew) (wr.heap.size) 3 #[.int .i64 (1 : Int), .int .i64 (0 : Int)] := (Blk.new wr _ _).alloc _
                exact ⟨rfl, .inr ⟨wr.heap.size, 2, #[.int .i64 (1 : Int), .int .i64 (0 : Int)], rfl, by omega, hB, Nat.le_refl _, by unfold maxLen; omega, rfl, rfl⟩⟩
              | k + 1, hc, ha => cases hc)
            obtain ⟨Aj, cj, hAj, HR0⟩ := HX.out.row (j := 0) (by omega)
            obtain ⟨L, hL⟩ : ∃ L, ((ath (4 * i + 2) 0 0) 0).length = L := ⟨_, rfl⟩
            rw [hL] at hAj HR0
            have hL18 : L ≤ 20 := by rw [← hL]; exact HLN.out
            obtain ⟨y, hy⟩ : ∃ y, ((ath (4 * i + 2) 0 0) 0).zip (av 0) ++ [((⟨0, [(1 : Int), (0 : Int)]⟩ : VCall), (⟨some ⟨wr.heap.size, 0, none⟩, 2, 2⟩ : SV))] = y := ⟨_, rfl⟩
            have HYE := hid hy
            have HYL := hid (show y.length = L + 1 by rw [← hy, List.length_append, HR0.len]; rfl)
            have HR := hid HR0
            have HAJ := hid hAj
            have c2x := HR.out.c2; have c3 := HR.out.c3; have f3 := HR.out.f3; have hcj := HR.out.hcj; have hcm := HR.out.hcm
            unfold maxLen at hcm
            clear hy HR0 hAj hL
            have ltT := World.block_lt_of_cell? wr _ c3
            have ltX := World.block_lt_of_cell? wr _ c2x
            have ltT1 : T < wr.heap.size + 1 := Nat.lt_succ_of_lt ltT
            have hq3 : ∀ o1 o2 : Obj, ((wr.alloc o1).alloc o2).cell? ⟨T, 0, none⟩ = some (.slice Aj L cj) := fun o1 o2 => cell_below (bnew (bnew (bnil wr) o1) o2) c3
            go_upto_region 18 with fail
            refine wp_region_held_drew (S := (fun w' => w'.cell? ⟨X, 2, none⟩ = some (.slice (some ⟨T, 0, none⟩) 3 3) ∧ w'.frozen? ⟨T, 0, none⟩ = false)) (by kernel_rfl) ?_ (fun hHeld => ?_)
            · (try dsimp only); (first | assumption | exact ⟨c2x, f3⟩ | exact HZ.1 | exact HZ.2.2 _ | (refine sees2f ?_ c2x c3 f3; (repeat (first | exact bnil _ | refine Below.drew ?_ | refine bnew ?_ _))))
            refine wpAnyH_take (i := 0) (oi := ⟨some 48, _, _, _, _, _⟩) (v := ?_) rfl (by kernel_rfl) (by kernel_rfl) (by kernel_rfl) (fun _ _ _ h => h) (Or.inl ⟨by rfl, ?_⟩) (by assumption) ?_
            rotate_left
            · intro w hSw; (try dsimp only at hSw); go_simp <;> with_reducible rfl
            try simp only [Act.put, List.setIfInBounds_toArray, List.set_cons_zero, List.set_cons_succ]
            refine wpAnyH_take (i := 1) (oi := ⟨some 49, _, _, _, _, _⟩) (v := ?_) rfl (by kernel_rfl) (by kernel_rfl) (by kernel_rfl) (fun _ _ _ h => h) (Or.inl ⟨by rfl, ?_⟩) (by assumption) ?_
            rotate_left
            · intro w hSw; (try dsimp only at hSw); go_simp <;> with_reducible rfl
            try simp only [Act.put, List.setIfInBounds_toArray, List.set_cons_zero, List.set_cons_succ]
            refine wpAnyH_take (i := 2) (oi := ⟨some 50, _, _, _, _, _⟩) (v := ?_) rfl (by kernel_rfl) (by kernel_rfl) (by kernel_rfl) (fun _ _ _ h => h) (Or.inl ⟨by rfl, ?_⟩) (by assumption) ?_
            rotate_left
            · intro w hSw; (try dsimp only at hSw); go_simp <;> with_reducible rfl
            try simp only [Act.put, List.setIfInBounds_toArray, List.set_cons_zero, List.set_cons_succ]
            refine wpAnyH_take (i := 3) (oi := ⟨some 51, _, _, _, _, _⟩) (v := ?_) rfl (by kernel_rfl) (by kernel_rfl) (by kernel_rfl) (fun _ _ _ h => h) (Or.inl ⟨by rfl, ?_⟩) (by assumption) ?_
            rotate_left
            · intro w hSw; (try dsimp only at hSw); go_simp <;> with_reducible rfl
            try simp only [Act.put, List.setIfInBounds_toArray, List.set_cons_zero, List.set_cons_succ]
            refine wpAnyH_take (i := 4) (oi := ⟨some 52, _, _, _, _, _⟩) (v := ?_) rfl (by kernel_rfl) (by kernel_rfl) (by kernel_rfl) (fun _ _ _ h => h) (Or.inl ⟨by rfl, ?_⟩) (by assumption) ?_
            rotate_left
            · intro w hSw; (try dsimp only at hSw); go_simp <;> with_reducible rfl
            try simp only [Act.put, List.setIfInBounds_toArray, List.set_cons_zero, List.set_cons_succ]
            refine wpAnyH_take (i := 6) (oi := ⟨some 54, _, _, _, _, _⟩) (v := ?_) rfl (by kernel_rfl) (by kernel_rfl) (by kernel_rfl) (fun _ _ _ h => h) (Or.inl ⟨by rfl, ?_⟩) (by assumption) ?_
            rotate_left
            · intro w hSw; (try dsimp only at hSw); go_simp <;> with_reducible rfl
            try simp only [Act.put, List.setIfInBounds_toArray, List.set_cons_zero, List.set_cons_succ]
            refine wpAnyH_take (i := 7) (oi := ⟨some 55, _, _, _, _, _⟩) (v := ?_) rfl (by kernel_rfl) (by kernel_rfl) (by kernel_rfl) (fun _ _ _ h => h) (Or.inl ⟨by rfl, ?_⟩) (by assumption) ?_
            rotate_left
            · intro w hSw; (try dsimp only at hSw); go_simp <;> with_reducible rfl
            try simp only [Act.put, List.setIfInBounds_toArray, List.set_cons_zero, List.set_cons_succ]
            refine wpAnyH_ready (rs := [5, 8]) (by kernel_rfl) (by simp) ?_
            refine AllReadyH.cons (o := ⟨some 53, _, _, _, _, _⟩) rfl (fun K hK => ?_) ?_
            go_simp
            refine hK.out _ _ ?_ (fun hHeld => ?_)
            · (try dsimp only); (first | assumption | exact ⟨c2x, f3⟩ | exact HZ.1 | exact HZ.2.2 _ | (refine sees2f ?_ c2x c3 f3; (repeat (first | exact bnil _ | refine Below.drew ?_ | refine bnew ?_ _))))
            clear hK K
            try simp only [Act.put, List.setIfInBounds_toArray, List.set_cons_zero, List.set_cons_succ]
            refine wpAnyH_ready (rs := [8]) (by kernel_rfl) (by simp) ?_
            refine AllReadyH.cons (o := ⟨some 56, _, _, _, _, _⟩) rfl (fun K hK => ?_) AllReadyH.nil
            go_simp
            refine hK.out _ _ ?_ (fun hHeld => ?_)
            · (try dsimp only); (first | assumption | exact ⟨c2x, f3⟩ | exact HZ.1 | exact HZ.2.2 _ | (refine sees2f ?_ c2x c3 f3; (repeat (first | exact bnil _ | refine Below.drew ?_ | refine bnew ?_ _))))
            clear hK K
            try simp only [Act.put, List.setIfInBounds_toArray, List.set_cons_zero, List.set_cons_succ]
            refine wpAnyH_take (i := 9) (oi := ⟨some 57, _, _, _, _, _⟩) (v := ?_) rfl (by kernel_rfl) (by kernel_rfl) (by kernel_rfl) (fun _ _ _ h => h) (Or.inl ⟨by rfl, ?_⟩) (by assumption) ?_
            rotate_left
            · intro w hSw; (try dsimp only at hSw); go_simp <;> with_reducible rfl
            try simp only [Act.put, List.setIfInBounds_toArray, List.set_cons_zero, List.set_cons_succ]
            refine wpAnyH_ready (rs := [10]) (by kernel_rfl) (by simp) ?_
            refine AllReadyH.cons (o := ⟨some 58, _, _, _, _, _⟩) rfl (fun K hK => ?_) AllReadyH.nil
            go_simp
            refine hK.out _ _ ?_ (fun hHeld => ?_)
            · (try dsimp only); (first | assumption | exact ⟨c2x, f3⟩ | exact HZ.1 | exact HZ.2.2 _ | (refine sees2f ?_ c2x c3 f3; (repeat (first | exact bnil _ | refine Below.drew ?_ | refine bnew ?_ _))))
            clear hK K
            try simp only [Act.put, List.setIfInBounds_toArray, List.set_cons_zero, List.set_cons_succ]
            refine wpAnyH_ready (rs := [11]) (by kernel_rfl) (by simp) ?_
            refine AllReadyH.cons (o := ⟨some 59, _, _, _, _, _⟩) rfl (fun K hK => ?_) AllReadyH.nil
            (refine step_appC elmCN gS_one rfl (.tmp 53) (.tmp 58) rfl (.slice Aj L cj) (((ath (4 * i + 2) 0 0) 0).zip (av 0)) rfl (HR.out.row _ (bnew (bnew (bnil _) _) _).drew) [((⟨0, [(1 : Int), (0 : Int)]⟩ : VCall), (⟨some ⟨wr.heap.size, 0, none⟩, 2, 2⟩ : SV))] y HYE rfl (Sl.drew (Sl.fresh' _ #[_, _] 35 2 1 _ (by simp) rfl)) rfl (by rw [HYL.out]; simp only [maxLen]; omega) (by rw [HYL.out]; omega) (Nat.le_trans HR.out.size (bnew (bnew (bnil _) _) _).drew.size) ?_; intro E6 c6 w6 hc6 hc7 HN6 HG6 HO6; have HZ := HR.out.grow _ w6 (bnew (bnew (bnil _) _) _).drew HG6.out)
            refine hK.out _ _ ?_ (fun hHeld => ?_)
            · (try dsimp only); (first | assumption | exact ⟨c2x, f3⟩ | exact HZ.1 | exact HZ.2.2 _ | (refine sees2f ?_ c2x c3 f3; (repeat (first | exact bnil _ | refine Below.drew ?_ | refine bnew ?_ _))))
            clear hK K
            try simp only [Act.put, List.setIfInBounds_toArray, List.set_cons_zero, List.set_cons_succ]
            refine wpAnyH_take (i := 12) (oi := ⟨some 60, _, _, _, _, _⟩) (v := ?_) rfl (by kernel_rfl) (by kernel_rfl) (by kernel_rfl) (fun _ _ _ h => h) (Or.inl ⟨by rfl, ?_⟩) (by assumption) ?_
            rotate_left
            · intro w hSw; (try dsimp only at hSw); go_simp <;> with_reducible rfl
            try simp only [Act.put, List.setIfInBounds_toArray, List.set_cons_zero, List.set_cons_succ]
            refine wpAnyH_ready (rs := [13]) (by kernel_rfl) (by simp) ?_
            refine AllReadyH.cons (o := ⟨none, _, _, _, _, _⟩) rfl (fun K hK => ?_) AllReadyH.nil
            go_simp
            refine hK.out _ _ ?_ (fun hHeld => ?_)
            · (try dsimp only); (first | assumption | exact ⟨c2x, f3⟩ | exact HZ.1 | exact HZ.2.2 _ | (refine sees2f ?_ c2x c3 f3; (repeat (first | exact bnil _ | refine Below.drew ?_ | refine bnew ?_ _))))
            clear hK K
            try dsimp only [Act.put]
            refine wpAnyH_done (by kernel_rfl) ?_ _
            rotate_left
            refine AllReadyH.cons (o := ⟨some 56, _, _, _, _, _⟩) rfl (fun K hK => ?_) AllReadyH.nil
            go_simp
            refine hK.out _ _ ?_ (fun hHeld => ?_)
            · (try dsimp only); (first | assumption | exact ⟨c2x, f3⟩ | exact HZ.1 | exact HZ.2.2 _ | (refine sees2f ?_ c2x c3 f3; (repeat (first | exact bnil _ | refine Below.drew ?_ | refine bnew ?_ _))))
            clear hK K
            try simp only [Act.put, List.setIfInBounds_toArray, List.set_cons_zero, List.set_cons_succ]
            refine wpAnyH_take (i := 9) (oi := ⟨some 57, _, _, _, _, _⟩) (v := ?_) rfl (by kernel_rfl) (by kernel_rfl) (by kernel_rfl) (fun _ _ _ h => h) (Or.inl ⟨by rfl, ?_⟩) (by assumption) ?_
            rotate_left
            · intro w hSw; (try dsimp only at hSw); go_simp <;> with_reducible rfl
            try simp only [Act.put, List.setIfInBounds_toArray, List.set_cons_zero, List.set_cons_succ]
            refine wpAnyH_ready (rs := [5, 10]) (by kernel_rfl) (by simp) ?_
            refine AllReadyH.cons (o := ⟨some 53, _, _, _, _, _⟩) rfl (fun K hK => ?_) ?_
            go_simp
            refine hK.out _ _ ?_ (fun hHeld => ?_)
            · (try dsimp only); (first | assumption | exact ⟨c2x, f3⟩ | exact HZ.1 | exact HZ.2.2 _ | (refine sees2f ?_ c2x c3 f3; (repeat (first | exact bnil _ | refine Below.drew ?_ | refine bnew ?_ _))))
            clear hK K
            try simp only [Act.put, List.setIfInBounds_toArray, List.set_cons_zero, List.set_cons_succ]
            refine wpAnyH_ready (rs := [10]) (by kernel_rfl) (by simp) ?_
            refine AllReadyH.cons (o := ⟨some 58, _, _, _, _, _⟩) rfl (fun K hK => ?_) AllReadyH.nil
            go_simp
            refine hK.out _ _ ?_ (fun hHeld => ?_)
            · (try dsimp only); (first | assumption | exact ⟨c2x, f3⟩ | exact HZ.1 | exact HZ.2.2 _ | (refine sees2f ?_ c2x c3 f3; (repeat (first | exact bnil _ | refine Below.drew ?_ | refine bnew ?_ _))))
            clear hK K
            try simp only [Act.put, List.setIfInBounds_toArray, List.set_cons_zero, List.set_cons_succ]
            refine wpAnyH_ready (rs := [11]) (by kernel_rfl) (by simp) ?_
            refine AllReadyH.cons (o := ⟨some 59, _, _, _, _, _⟩) rfl (fun K hK => ?_) AllReadyH.nil
            (refine step_appC elmCN gS_one rfl (.tmp 53) (.tmp 58) rfl (.slice Aj L cj) (((ath (4 * i + 2) 0 0) 0).zip (av 0)) rfl (HR.out.row _ (bnew (bnew (bnil _) _) _).drew) [((⟨0, [(1 : Int), (0 : Int)]⟩ : VCall), (⟨some ⟨wr.heap.size, 0, none⟩, 2, 2⟩ : SV))] y HYE rfl (Sl.drew (Sl.fresh' _ #[_, _] 35 2 1 _ (by simp) rfl)) rfl (by rw [HYL.out]; simp only [maxLen]; omega) (by rw [HYL.out]; omega) (Nat.le_trans HR.out.size (bnew (bnew (bnil _) _) _).drew.size) ?_; intro E6 c6 w6 hc6 hc7 HN6 HG6 HO6; have HZ := HR.out.grow _ w6 (bnew (bnew (bnil _) _) _).drew HG6.out)
            refine hK.out _ _ ?_ (fun hHeld => ?_)
            · (try dsimp only); (first | assumption | exact ⟨c2x, f3⟩ | exact HZ.1 | exact HZ.2.2 _ | (refine sees2f ?_ c2x c3 f3; (repeat (first | exact bnil _ | refine Below.drew ?_ | refine bnew ?_ _))))
            clear hK K
            try simp only [Act.put, List.setIfInBounds_toArray, List.set_cons_zero, List.set_cons_succ]
            refine wpAnyH_take (i := 12) (oi := ⟨some 60, _, _, _, _, _⟩) (v := ?_) rfl (by kernel_rfl) (by kernel_rfl) (by kernel_rfl) (fun _ _ _ h => h) (Or.inl ⟨by rfl, ?_⟩) (by assumption) ?_
            rotate_left
            · intro w hSw; (try dsimp only at hSw); go_simp <;> with_reducible rfl
            try simp only [Act.put, List.setIfInBounds_toArray, List.set_cons_zero, List.set_cons_succ]
            refine wpAnyH_ready (rs := [13]) (by kernel_rfl) (by simp) ?_
            refine AllReadyH.cons (o := ⟨none, _, _, _, _, _⟩) rfl (fun K hK => ?_) AllReadyH.nil
            go_simp
            refine hK.out _ _ ?_ (fun hHeld => ?_)
            · (try dsimp only); (first | assumption | exact ⟨c2x, f3⟩ | exact HZ.1 | exact HZ.2.2 _ | (refine sees2f ?_ c2x c3 f3; (repeat (first | exact bnil _ | refine Below.drew ?_ | refine bnew ?_ _))))
            clear hK K
            try dsimp only [Act.put]
            refine wpAnyH_done (by kernel_rfl) ?_ _
            rotate_left
            refine AllReadyH.cons (o := ⟨some 58, _, _, _, _, _⟩) rfl (fun K hK => ?_) AllReadyH.nil
            go_simp
            refine hK.out _ _ ?_ (fun hHeld => ?_)
            · (try dsimp only); (first | assumption | exact ⟨c2x, f3⟩ | exact HZ.1 | exact HZ.2.2 _ | (refine sees2f ?_ c2x c3 f3; (repeat (first | exact bnil _ | refine Below.drew ?_ | refine bnew ?_ _))))
            clear hK K
            try simp only [Act.put, List.setIfInBounds_toArray, List.set_cons_zero, List.set_cons_succ]
            refine wpAnyH_ready (rs := [5]) (by kernel_rfl) (by simp) ?_
            refine AllReadyH.cons (o := ⟨some 53, _, _, _, _, _⟩) rfl (fun K hK => ?_) AllReadyH.nil
            go_simp
            refine hK.out _ _ ?_ (fun hHeld => ?_)
            · (try dsimp only); (first | assumption | exact ⟨c2x, f3⟩ | exact HZ.1 | exact HZ.2.2 _ | (refine sees2f ?_ c2x c3 f3; (repeat (first | exact bnil _ | refine Below.drew ?_ | refine bnew ?_ _))))
            clear hK K
            try simp only [Act.put, List.setIfInBounds_toArray, List.set_cons_zero, List.set_cons_succ]
            refine wpAnyH_ready (rs := [11]) (by kernel_rfl) (by simp) ?_
            refine AllReadyH.cons (o := ⟨some 59, _, _, _, _, _⟩) rfl (fun K hK => ?_) AllReadyH.nil
            (refine step_appC elmCN gS_one rfl (.tmp 53) (.tmp 58) rfl (.slice Aj L cj) (((ath (4 * i + 2) 0 0) 0).zip (av 0)) rfl (HR.out.row _ (bnew (bnew (bnil _) _) _).drew) [((⟨0, [(1 : Int), (0 : Int)]⟩ : VCall), (⟨some ⟨wr.heap.size, 0, none⟩, 2, 2⟩ : SV))] y HYE rfl (Sl.drew (Sl.fresh' _ #[_, _] 35 2 1 _ (by simp) rfl)) rfl (by rw [HYL.out]; simp only [maxLen]; omega) (by rw [HYL.out]; omega) (Nat.le_trans HR.out.size (bnew (bnew (bnil _) _) _).drew.size) ?_; intro E6 c6 w6 hc6 hc7 HN6 HG6 HO6; have HZ := HR.out.grow _ w6 (bnew (bnew (bnil _) _) _).drew HG6.out)
            refine hK.out _ _ ?_ (fun hHeld => ?_)
            · (try dsimp only); (first | assumption | exact ⟨c2x, f3⟩ | exact HZ.1 | exact HZ.2.2 _ | (refine sees2f ?_ c2x c3 f3; (repeat (first | exact bnil _ | refine Below.drew ?_ | refine bnew ?_ _))))
            clear hK K
            try simp only [Act.put, List.setIfInBounds_toArray, List.set_cons_zero, List.set_cons_succ]
            refine wpAnyH_take (i := 12) (oi := ⟨some 60, _, _, _, _, _⟩) (v := ?_) rfl (by kernel_rfl) (by kernel_rfl) (by kernel_rfl) (fun _ _ _ h => h) (Or.inl ⟨by rfl, ?_⟩) (by assumption) ?_
            rotate_left
            · intro w hSw; (try dsimp only at hSw); go_simp <;> with_reducible rfl
            try simp only [Act.put, List.setIfInBounds_toArray, List.set_cons_zero, List.set_cons_succ]
            refine wpAnyH_ready (rs := [13]) (by kernel_rfl) (by simp) ?_
            refine AllReadyH.cons (o := ⟨none, _, _, _, _, _⟩) rfl (fun K hK => ?_) AllReadyH.nil
            go_simp
            refine hK.out _ _ ?_ (fun hHeld => ?_)
            · (try dsimp only); (first | assumption | exact ⟨c2x, f3⟩ | exact HZ.1 | exact HZ.2.2 _ | (refine sees2f ?_ c2x c3 f3; (repeat (first | exact bnil _ | refine Below.drew ?_ | refine bnew ?_ _))))
            clear hK K
            try dsimp only [Act.put]
            refine wpAnyH_done (by kernel_rfl) ?_ _
            rotate_left
            all_goals
              have HF := hid (HX.out.app (j := 0) (by omega) [⟨0, [(1 : Int), (0 : Int)]⟩] [⟨some ⟨wr.heap.size, 0, none⟩, 2, 2⟩] (bnew (bnew (bnil _) _) _).drew rfl (HOF.out _) HYE.out (by rw [HAJ.out]; exact HG6.out) (by rw [HAJ.out]; exact HO6.out) HN6.out)
              go_wp2_with fail
              go_roundw
              case rel => exact ⟨2 + 1, _, _, by omega, by first | rfl | go_num, hid (by have h1 := HF.out; rw [HAT.out] at h1; exact h1)⟩
              case measure => simp [intOf]
          · have HAT := hid (show upd (ath (4 * i + 3) 0 0) 0 (ath (4 * i + 3) 0 0 0 ++ [⟨0, [(0 : Int), (0 : Int)]⟩]) = ath (4 * i + (3 + 1)) 0 0 by
              have h := ath_0 (4 * i + 3)
              rw [agp_at i (by decide), agv_at i (by decide)] at h
              exact h)
            have HLN := hid (show (ath (4 * i + 3) 0 0 0).length ≤ 20 from ath_len (by omega) (by decide) (by decide))
            have HOF := hid (show ∀ (LIT : Obj) (k' : Nat) (c : VCall) (a : SV), ([⟨0, [(0 : Int), (0 : Int)]⟩] : List VCall)[k']? = some c → ([⟨some ⟨wr.heap.size, 0, none⟩, 2, 2⟩] : List SV)[k']? = some a → (((wr.alloc (.cells #[.int .i64 (0 : Int), .int .i64 (0 : Int)] 3)).alloc LIT).drew).ownsRow w.heap.size 3 1 a.v c.args.length (c.args.flatMap gI) from by
              intro LIT k' c a hc ha
              have hge : w.heap.size ≤ wr.heap.size := HX.out.below.size
              match k', hc, ha with
              | 0, hc, ha =>
                injection hc with hc; injection ha with ha; subst hc ha
                have hB : Blk (((wr.alloc (.cells #[.int .i64 (0 : Int), .int .i64 (0 : Int)] 3)).alloc LIT).drew) (wr.heap.size) 3 #[.int .i64 (0 : Int), .int .i64 (0 : Int)] := (Blk.new wr _ _).alloc _
                exact ⟨rfl, .inr ⟨wr.heap.size, 2, #[.int .i64 (0 : Int), .int .i64 (0 : Int)], rfl, by omega, hB, Nat.le_refl _, by unfold maxLen; omega, rfl, rfl⟩⟩
              | k + 1, hc, ha => cases hc)
            obtain ⟨Aj, cj, hAj, HR0⟩ := HX.out.row (j := 0) (by omega)
            obtain ⟨L, hL⟩ : ∃ L, ((ath (4 * i + 3) 0 0) 0).length = L := ⟨_, rfl⟩
            rw [hL] at hAj HR0
            have hL18 : L ≤ 20 := by rw [← hL]; exact HLN.out
            obtain ⟨y, hy⟩ : ∃ y, ((ath (4 * i + 3) 0 0) 0).zip (av 0) ++ [((⟨0, [(0 : Int), (0 : Int)]⟩ : VCall), (⟨some ⟨wr.heap.size, 0, none⟩, 2, 2⟩ : SV))] = y := ⟨_, rfl⟩
            have HYE := hid hy
            have HYL := hid (show y.length = L + 1 by rw [← hy, List.length_append, HR0.len]; rfl)
            have HR := hid HR0
            have HAJ := hid hAj
            have c2x := HR.out.c2; have c3 := HR.out.c3; have f3 := HR.out.f3; have hcj := HR.out.hcj; have hcm := HR.out.hcm
            unfold maxLen at hcm
            clear hy HR0 hAj hL
            have ltT := World.block_lt_of_cell? wr _ c3
            have ltX := World.block_lt_of_cell? wr _ c2x
            have ltT1 : T < wr.heap.size + 1 := Nat.lt_succ_of_lt ltT
            have hq3 : ∀ o1 o2 : Obj, ((wr.alloc o1).alloc o2).cell? ⟨T, 0, none⟩ = some (.slice Aj L cj) := fun o1 o2 => cell_below (bnew (bnew (bnil wr) o1) o2) c3
            go_upto_region 18 with fail
            refine wp_region_held_drew (S := (fun w' => w'.cell? ⟨X, 2, none⟩ = some (.slice (some ⟨T, 0, none⟩) 3 3) ∧ w'.frozen? ⟨T, 0, none⟩ = false)) (by kernel_rfl) ?_ (fun hHeld => ?_)
            · (try dsimp only); (first | assumption | exact ⟨c2x, f3⟩ | exact HZ.1 | exact HZ.2.2 _ | (refine sees2f ?_ c2x c3 f3; (repeat (first | exact bnil _ | refine Below.drew ?_ | refine bnew ?_ _))))
            refine wpAnyH_take (i := 0) (oi := ⟨some 48, _, _, _, _, _⟩) (v := ?_) rfl (by kernel_rfl) (by kernel_rfl) (by kernel_rfl) (fun _ _ _ h => h) (Or.inl ⟨by rfl, ?_⟩) (by assumption) ?_
            rotate_left
            · intro w hSw; (try dsimp only at hSw); go_simp <;> with_reducible rfl
            try simp only [Act.put, List.setIfInBounds_toArray, List.set_cons_zero, List.set_cons_succ]
            refine wpAnyH_take (i := 1) (oi := ⟨some 49, _, _, _, _, _⟩) (v := ?_) rfl (by kernel_rfl) (by kernel_rfl) (by kernel_rfl) (fun _ _ _ h => h) (Or.inl ⟨by rfl, ?_⟩) (by assumption) ?_
            rotate_left
            · intro w hSw; (try dsimp only at hSw); go_simp <;> with_reducible rfl
            try simp only [Act.put, List.setIfInBounds_toArray, List.set_cons_zero, List.set_cons_succ]
            refine wpAnyH_take (i := 2) (oi := ⟨some 50, _, _, _, _, _⟩) (v := ?_) rfl (by kernel_rfl) (by kernel_rfl) (by kernel_rfl) (fun _ _ _ h => h) (Or.inl ⟨by rfl, ?_⟩) (by assumption) ?_
            rotate_left
            · intro w hSw; (try dsimp only at hSw); go_simp <;> with_reducible rfl
            try simp only [Act.put, List.setIfInBounds_toArray, List.set_cons_zero, List.set_cons_succ]
            refine wpAnyH_take (i := 3) (oi := ⟨some 51, _, _, _, _, _⟩) (v := ?_) rfl (by kernel_rfl) (by kernel_rfl) (by kernel_rfl) (fun _ _ _ h => h) (Or.inl ⟨by rfl, ?_⟩) (by assumption) ?_
            rotate_left
            · intro w hSw; (try dsimp only at hSw); go_simp <;> with_reducible rfl
            try simp only [Act.put, List.setIfInBounds_toArray, List.set_cons_zero, List.set_cons_succ]
            refine wpAnyH_take (i := 4) (oi := ⟨some 52, _, _, _, _, _⟩) (v := ?_) rfl (by kernel_rfl) (by kernel_rfl) (by kernel_rfl) (fun _ _ _ h => h) (Or.inl ⟨by rfl, ?_⟩) (by assumption) ?_
            rotate_left
            · intro w hSw; (try dsimp only at hSw); go_simp <;> with_reducible rfl
            try simp only [Act.put, List.setIfInBounds_toArray, List.set_cons_zero, List.set_cons_succ]
            refine wpAnyH_take (i := 6) (oi := ⟨some 54, _, _, _, _, _⟩) (v := ?_) rfl (by kernel_rfl) (by kernel_rfl) (by kernel_rfl) (fun _ _ _ h => h) (Or.inl ⟨by rfl, ?_⟩) (by assumption) ?_
            rotate_left
            · intro w hSw; (try dsimp only at hSw); go_simp <;> with_reducible rfl
            try simp only [Act.put, List.setIfInBounds_toArray, List.set_cons_zero, List.set_cons_succ]
            refine wpAnyH_take (i := 7) (oi := ⟨some 55, _, _, _, _, _⟩) (v := ?_) rfl (by kernel_rfl) (by kernel_rfl) (by kernel_rfl) (fun _ _ _ h => h) (Or.inl ⟨by rfl, ?_⟩) (by assumption) ?_
            rotate_left
            · intro w hSw; (try dsimp only at hSw); go_simp <;> with_reducible rfl
            try simp only [Act.put, List.setIfInBounds_toArray, List.set_cons_zero, List.set_cons_succ]
            refine wpAnyH_ready (rs := [5, 8]) (by kernel_rfl) (by simp) ?_
            refine AllReadyH.cons (o := ⟨some 53, _, _, _, _, _⟩) rfl (fun K hK => ?_) ?_
            go_simp
            refine hK.out _ _ ?_ (fun hHeld => ?_)
            · (try dsimp only); (first | assumption | exact ⟨c2x, f3⟩ | exact HZ.1 | exact HZ.2.2 _ | (refine sees2f ?_ c2x c3 f3; (repeat (first | exact bnil _ | refine Below.drew ?_ | refine bnew ?_ _))))
            clear hK K
            try simp only [Act.put, List.setIfInBounds_toArray, List.set_cons_zero, List.set_cons_succ]
            refine wpAnyH_ready (rs := [8]) (by kernel_rfl) (by simp) ?_
            refine AllReadyH.cons (o := ⟨some 56, _, _, _, _, _⟩) rfl (fun K hK => ?_) AllReadyH.nil
            go_simp
            refine hK.out _ _ ?_ (fun hHeld => ?_)
            · (try dsimp only); (first | assumption | exact ⟨c2x, f3⟩ | exact HZ.1 | exact HZ.2.2 _ | (refine sees2f ?_ c2x c3 f3; (repeat (first | exact bnil _ | refine Below.drew ?_ | refine bnew ?_ _))))
            clear hK K
            try simp only [Act.put, List.setIfInBounds_toArray, List.set_cons_zero, List.set_cons_succ]
            refine wpAnyH_take (i := 9) (oi := ⟨some 57, _, _, _, _, _⟩) (v := ?_) rfl (by kernel_rfl) (by kernel_rfl) (by kernel_rfl) (fun _ _ _ h => h) (Or.inl ⟨by rfl, ?_⟩) (by assumption) ?_
            rotate_left
            · intro w hSw; (try dsimp only at hSw); go_simp <;> with_reducible rfl
            try simp only [Act.put, List.setIfInBounds_toArray, List.set_cons_zero, List.set_cons_succ]
            refine wpAnyH_ready (rs := [10]) (by kernel_rfl) (by simp) ?_
            refine AllReadyH.cons (o := ⟨some 58, _, _, _, _, _⟩) rfl (fun K hK => ?_) AllReadyH.nil
            go_simp
            refine hK.out _ _ ?_ (fun hHeld => ?_)
            · (try dsimp only); (first | assumption | exact ⟨c2x, f3⟩ | exact HZ.1 | exact HZ.2.2 _ | (refine sees2f ?_ c2x c3 f3; (repeat (first | exact bnil _ | refine Below.drew ?_ | refine bnew ?_ _))))
            clear hK K
            try simp only [Act.put, List.setIfInBounds_toArray, List.set_cons_zero, List.set_cons_succ]
            refine wpAnyH_ready (rs := [11]) (by kernel_rfl) (by simp) ?_
            refine AllReadyH.cons (o := ⟨some 59, _, _, _, _, _⟩) rfl (fun K hK => ?_) AllReadyH.nil
            (refine step_appC elmCN gS_one rfl (.tmp 53) (.tmp 58) rfl (.slice Aj L cj) (((ath (4 * i + 3) 0 0) 0).zip (av 0)) rfl (HR.out.row _ (bnew (bnew (bnil _) _) _).drew) [((⟨0, [(0 : Int), (0 : Int)]⟩ : VCall), (⟨some ⟨wr.heap.size, 0, none⟩, 2, 2⟩ : SV))] y HYE rfl (Sl.drew (Sl.fresh' _ #[_, _] 35 2 1 _ (by simp) rfl)) rfl (by rw [HYL.out]; simp only [maxLen]; omega) (by rw [HYL.out]; omega) (Nat.le_trans HR.out.size (bnew (bnew (bnil _) _) _).drew.size) ?_; intro E6 c6 w6 hc6 hc7 HN6 HG6 HO6; have HZ := HR.out.grow _ w6 (bnew (bnew (bnil _) _) _).drew HG6.out)
            refine hK.out _ _ ?_ (fun hHeld => ?_)
            · (try dsimp only); (first | assumption | exact ⟨c2x, f3⟩ | exact HZ.1 | exact HZ.2.2 _ | (refine sees2f ?_ c2x c3 f3; (repeat (first | exact bnil _ | refine Below.drew ?_ | refine bnew ?_ _))))
            clear hK K
            try simp only [Act.put, List.setIfInBounds_toArray, List.set_cons_zero, List.set_cons_succ]
            refine wpAnyH_take (i := 12) (oi := ⟨some 60, _, _, _, _, _⟩) (v := ?_) rfl (by kernel_rfl) (by kernel_rfl) (by kernel_rfl) (fun _ _ _ h => h) (Or.inl ⟨by rfl, ?_⟩) (by assumption) ?_
            rotate_left
            · intro w hSw; (try dsimp only at hSw); go_simp <;> with_reducible rfl
            try simp only [Act.put, List.setIfInBounds_toArray, List.set_cons_zero, List.set_cons_succ]
            refine wpAnyH_ready (rs := [13]) (by kernel_rfl) (by simp) ?_
            refine AllReadyH.cons (o := ⟨none, _, _, _, _, _⟩) rfl (fun K hK => ?_) AllReadyH.nil
            go_simp
            refine hK.out _ _ ?_ (fun hHeld => ?_)
            · (try dsimp only); (first | assumption | exact ⟨c2x, f3⟩ | exact HZ.1 | exact HZ.2.2 _ | (refine sees2f ?_ c2x c3 f3; (repeat (first | exact bnil _ | refine Below.drew ?_ | refine bnew ?_ _))))
            clear hK K
            try dsimp only [Act.put]
            refine wpAnyH_done (by kernel_rfl) ?_ _
            rotate_left
            refine AllReadyH.cons (o := ⟨some 56, _, _, _, _, _⟩) rfl (fun K hK => ?_) AllReadyH.nil
            go_simp
            refine hK.out _ _ ?_ (fun hHeld => ?_)
            · (try dsimp only); (first | assumption | exact ⟨c2x, f3⟩ | exact HZ.1 | exact HZ.2.2 _ | (refine sees2f ?_ c2x c3 f3; (repeat (first | exact bnil _ | refine Below.drew ?_ | refine bnew ?_ _))))
            clear hK K
            try simp only [Act.put, List.setIfInBounds_toArray, List.set_cons_zero, List.set_cons_succ]
            refine wpAnyH_take (i := 9) (oi := ⟨some 57, _, _, _, _, _⟩) (v := ?_) rfl (by kernel_rfl) (by kernel_rfl) (by kernel_rfl) (fun _ _ _ h => h) (Or.inl ⟨by rfl, ?_⟩) (by assumption) ?_
            rotate_left
            · intro w hSw; (try dsimp only at hSw); go_simp <;> with_reducible rfl
            try simp only [Act.put, List.setIfInBounds_toArray, List.set_cons_zero, List.set_cons_succ]
            refine wpAnyH_ready (rs := [5, 10]) (by kernel_rfl) (by simp) ?_
            refine AllReadyH.cons (o := ⟨some 53, _, _, _, _, _⟩) rfl (fun K hK => ?_) ?_
            go_simp
            refine hK.out _ _ ?_ (fun hHeld => ?_)
            · (try dsimp only); (first | assumption | exact ⟨c2x, f3⟩ | exact HZ.1 | exact HZ.2.2 _ | (refine sees2f ?_ c2x c3 f3; (repeat (first | exact bnil _ | refine Below.drew ?_ | refine bnew ?_ _))))
            clear hK K
            try simp only [Act.put, List.setIfInBounds_toArray, List.set_cons_zero, List.set_cons_succ]
            refine wpAnyH_ready (rs := [10]) (by kernel_rfl) (by simp) ?_
            refine AllReadyH.cons (o := ⟨some 58, _, _, _, _, _⟩) rfl (fun K hK => ?_) AllReadyH.nil
            go_simp
            refine hK.out _ _ ?_ (fun hHeld => ?_)
            · (try dsimp only); (first | assumption | exact ⟨c2x, f3⟩ | exact HZ.1 | exact HZ.2.2 _ | (refine sees2f ?_ c2x c3 f3; (repeat (first | exact bnil _ | refine Below.drew ?_ | refine bnew ?_ _))))
            clear hK K
            try simp only [Act.put, List.setIfInBounds_toArray, List.set_cons_zero, List.set_cons_succ]
            refine wpAnyH_ready (rs := [11]) (by kernel_rfl) (by simp) ?_
            refine AllReadyH.cons (o := ⟨some 59, _, _, _, _, _⟩) rfl (fun K hK => ?_) AllReadyH.nil
            (refine step_appC elmCN gS_one rfl (.tmp 53) (.tmp 58) rfl (.slice Aj L cj) (((ath (4 * i + 3) 0 0) 0).zip (av 0)) rfl (HR.out.row _ (bnew (bnew (bnil _) _) _).drew) [((⟨0, [(0 : Int), (0 : Int)]⟩ : VCall), (⟨some ⟨wr.heap.size, 0, none⟩, 2, 2⟩ : SV))] y HYE rfl (Sl.drew (Sl.fresh' _ #[_, _] 35 2 1 _ (by simp) rfl)) rfl (by rw [HYL.out]; simp only [maxLen]; omega) (by rw [HYL.out]; omega) (Nat.le_trans HR.out.size (bnew (bnew (bnil _) _) _).drew.size) ?_; intro E6 c6 w6 hc6 hc7 HN6 HG6 HO6; have HZ := HR.out.grow _ w6 (bnew (bnew (bnil _) _) _).drew HG6.out)
            refine hK.out _ _ ?_ (fun hHeld => ?_)
            · (try dsimp only); (first | assumption | exact ⟨c2x, f3⟩ | exact HZ.1 | exact HZ.2.2 _ | (refine sees2f ?_ c2x c3 f3; (repeat (first | exact bnil _ | refine Below.drew ?_ | refine bnew ?_ _))))
            clear hK K
            try simp only [Act.put, List.setIfInBounds_toArray, List.set_cons_zero, List.set_cons_succ]
            refine wpAnyH_take (i := 12) (oi := ⟨some 60, _, _, _, _, _⟩) (v := ?_) rfl (by kernel_rfl) (by kernel_rfl) (by kernel_rfl) (fun _ _ _ h => h) (Or.inl ⟨by rfl, ?_⟩) (by assumption) ?_
            rotate_left
            · intro w hSw; (try dsimp only at hSw); go_simp <;> with_reducible rfl
            try simp only [Act.put, List.setIfInBounds_toArray, List.set_cons_zero, List.set_cons_succ]
            refine wpAnyH_ready (rs := [13]) (by kernel_rfl) (by simp) ?_
            refine AllReadyH.cons (o := ⟨none, _, _, _, _, _⟩) rfl (fun K hK => ?_) AllReadyH.nil
            go_simp
            refine hK.out _ _ ?_ (fun hHeld => ?_)
            · (try dsimp only); (first | assumption | exact ⟨c2x, f3⟩ | exact HZ.1 | exact HZ.2.2 _ | (refine sees2f ?_ c2x c3 f3; (repeat (first | exact bnil _ | refine Below.drew ?_ | refine bnew ?_ _))))
            clear hK K
            try dsimp only [Act.put]
            refine wpAnyH_done (by kernel_rfl) ?_ _
            rotate_left
            refine AllReadyH.cons (o := ⟨some 58, _, _, _, _, _⟩) rfl (fun K hK => ?_) AllReadyH.nil
            go_simp
            refine hK.out _ _ ?_ (fun hHeld => ?_)
            · (try dsimp only); (first | assumption | exact ⟨c2x, f3⟩ | exact HZ.1 | exact HZ.2.2 _ | (refine sees2f ?_ c2x c3 f3; (repeat (first | exact bnil _ | refine Below.drew ?_ | refine bnew ?_ _))))
            clear hK K
            try simp only [Act.put, List.setIfInBounds_toArray, List.set_cons_zero, List.set_cons_succ]
            refine wpAnyH_ready (rs := [5]) (by kernel_rfl) (by simp) ?_
            refine AllReadyH.cons (o := ⟨some 53, _, _, _, _, _⟩) rfl (fun K hK => ?_) AllReadyH.nil
            go_simp
            refine hK.out _ _ ?_ (fun hHeld => ?_)
            · (try dsimp only); (first | assumption | exact ⟨c2x, f3⟩ | exact HZ.1 | exact HZ.2.2 _ | (refine sees2f ?_ c2x c3 f3; (repeat (first | exact bnil _ | refine Below.drew ?_ | refine bnew ?_ _))))
            clear hK K
            try simp only [Act.put, List.setIfInBounds_toArray, List.set_cons_zero, List.set_cons_succ]
            refine wpAnyH_ready (rs := [11]) (by kernel_rfl) (by simp) ?_
            refine AllReadyH.cons (o := ⟨some 59, _, _, _, _, _⟩) rfl (fun K hK => ?_) AllReadyH.nil
            (refine step_appC elmCN gS_one rfl (.tmp 53) (.tmp 58) rfl (.slice Aj L cj) (((ath (4 * i + 3) 0 0) 0).zip (av 0)) rfl (HR.out.row _ (bnew (bnew (bnil _) _) _).drew) [((⟨0, [(0 : Int), (0 : Int)]⟩ : VCall), (⟨some ⟨wr.heap.size, 0, none⟩, 2, 2⟩ : SV))] y HYE rfl (Sl.drew (Sl.fresh' _ #[_, _] 35 2 1 _ (by simp) rfl)) rfl (by rw [HYL.out]; simp only [maxLen]; omega) (by rw [HYL.out]; omega) (Nat.le_trans HR.out.size (bnew (bnew (bnil _) _) _).drew.size) ?_; intro E6 c6 w6 hc6 hc7 HN6 HG6 HO6; have HZ := HR.out.grow _ w6 (bnew (bnew (bnil _) _) _).drew HG6.out)
            refine hK.out _ _ ?_ (fun hHeld => ?_)
            · (try dsimp only); (first | assumption | exact ⟨c2x, f3⟩ | exact HZ.1 | exact HZ.2.2 _ | (refine sees2f ?_ c2x c3 f3; (repeat (first | exact bnil _ | refine Below.drew ?_ | refine bnew ?_ _))))
            clear hK K
            try simp only [Act.put, List.setIfInBounds_toArray, List.set_cons_zero, List.set_cons_succ]
            refine wpAnyH_take (i := 12) (oi := ⟨some 60, _, _, _, _, _⟩) (v := ?_) rfl (by kernel_rfl) (by kernel_rfl) (by kernel_rfl) (fun _ _ _ h => h) (Or.inl ⟨by rfl, ?_⟩) (by assumption) ?_
            rotate_left
            · intro w hSw; (try dsimp only at hSw); go_simp <;> with_reducible rfl
            try simp only [Act.put, List.setIfInBounds_toArray, List.set_cons_zero, List.set_cons_succ]
            refine wpAnyH_ready (rs := [13]) (by kernel_rfl) (by simp) ?_
            refine AllReadyH.cons (o := ⟨none, _, _, _, _, _⟩) rfl (fun K hK => ?_) AllReadyH.nil
            go_simp
            refine hK.out _ _ ?_ (fun hHeld => ?_)
            · (try dsimp only); (first | assumption | exact ⟨c2x, f3⟩ | exact HZ.1 | exact HZ.2.2 _ | (refine sees2f ?_ c2x c3 f3; (repeat (first | exact bnil _ | refine Below.drew ?_ | refine bnew ?_ _))))
            clear hK K
            try dsimp only [Act.put]
            refine wpAnyH_done (by kernel_rfl) ?_ _
            rotate_left
            all_goals
              have HF := hid (HX.out.app (j := 0) (by omega) [⟨0, [(0 : Int), (0 : Int)]⟩] [⟨some ⟨wr.heap.size, 0, none⟩, 2, 2⟩] (bnew (bnew (bnil _) _) _).drew rfl (HOF.out _) HYE.out (by rw [HAJ.out]; exact HG6.out) (by rw [HAJ.out]; exact HO6.out) HN6.out)
              go_wp2_with fail
              go_roundw
              case rel => exact ⟨3 + 1, _, _, by omega, by first | rfl | go_num, hid (by have h1 := HF.out; rw [HAT.out] at h1; exact h1)⟩
              case measure => simp [intOf]
        · obtain rfl : k = 4 := by omega
          have i2 : ¬ ((4 : Nat) : Int) < 4 := by omega
          go_wp2_with fail
          go_roundw
          case rel => exact ⟨i + 1, tv, av, by omega, by go_num, HX⟩
          case measure => simp [intOf]; omega
    · obtain rfl : i = 5 := by omega
      have i1 : ¬ ((5 : Nat) : Int) < 5 := by omega
      replace HX := hid (show SBn w wr X Cb T 2 3 (.slice AW n cW) (List.replicate n (0 : Int)) cv (fun i => [nputCode, nscanCode n].getD i []) tv (ath 20 0 0) av from HX.out)
      go_wp2_with fail
      go_loopw [14] (fun v wx => ∃ (j : Nat) (tv : Nat → Value) (av : Nat → List SV), j ≤ 8 ∧ v = .int .i64 j ∧ Hid (SBn w wx X Cb T 2 3 (.slice AW n cW) (List.replicate n (0 : Int)) cv (fun i => [nputCode, nscanCode n].getD i []) tv (ath 20 j j) av)) (fun v _ => 8 - (intOf v).toNat)
      case atStart => exact ⟨0, _, _, Nat.zero_le _, rfl, HX⟩
      case round =>
        clear HX
        clear tv av
        obtain ⟨j, tv, av, hj8, rfl, HX⟩ := hrel
        by_cases hlj : j < 8
        · have i2 : (j : Int) < 8 := by omega
          have HLN := hid (show (ath 20 j j 1).length ≤ 20 from ath_len (by decide) (by omega) (by omega))
          go_upto_region 22 with fail
          go_cut [] (fun wx => ∃ (tv2 : Nat → Value) (av2 : Nat → List SV), Hid (SBn w wx X Cb T 2 3 (.slice AW n cW) (List.replicate n (0 : Int)) cv (fun i => [nputCode, nscanCode n].getD i []) tv2 (ath 20 (j + 1) j) av2))
          case first =>
            have HOF := hid (show ∀ (LIT : Obj) (k' : Nat) (c : VCall) (a : SV), ([⟨1, []⟩] : List VCall)[k']? = some c → ([(⟨none, 0, 0⟩ : SV)] : List SV)[k']? = some a → ((wr.alloc LIT).drew).ownsRow w.heap.size 3 1 a.v c.args.length (c.args.flatMap gI) from by
              intro LIT k' c a hc ha
              match k', hc, ha with
              | 0, hc, ha => injection hc with hc; injection ha with ha; subst hc ha; exact own0 _ _ _ 1
              | k + 1, hc, ha => cases hc)
            obtain ⟨Aj, cj, hAj, HR0⟩ := HX.out.row (j := 1) (by omega)
            obtain ⟨L, hL⟩ : ∃ L, ((ath 20 j j) 1).length = L := ⟨_, rfl⟩
            rw [hL] at hAj HR0
            have hL18 : L ≤ 20 := by rw [← hL]; exact HLN.out
            obtain ⟨y, hy⟩ : ∃ y, ((ath 20 j j) 1).zip (av 1) ++ [((⟨1, []⟩ : VCall), ((⟨none, 0, 0⟩ : SV) : SV))] = y := ⟨_, rfl⟩
            have HYE := hid hy
            have HYL := hid (show y.length = L + 1 by rw [← hy, List.length_append, HR0.len]; rfl)
            have HR := hid HR0
            have HAJ := hid hAj
            have c2x := HR.out.c2; have c3 := HR.out.c3; have f3 := HR.out.f3; have hcj := HR.out.hcj; have hcm := HR.out.hcm
            unfold maxLen at hcm
            clear hy HR0 hAj hL
            have ltT := World.block_lt_of_cell? wr _ c3
            have ltX := World.block_lt_of_cell? wr _ c2x
            have ltT1 : T < wr.heap.size + 1 := Nat.lt_succ_of_lt ltT
            have hq3 : ∀ o1 o2 : Obj, ((wr.alloc o1).alloc o2).cell? ⟨T, 1, none⟩ = some (.slice Aj L cj) := fun o1 o2 => cell_below (bnew (bnew (bnil wr) o1) o2) c3
            skip
            refine wp_region_held_drew (S := (fun w' => w'.cell? ⟨X, 2, none⟩ = some (.slice (some ⟨T, 0, none⟩) 3 3) ∧ w'.frozen? ⟨T, 1, none⟩ = false)) (by kernel_rfl) ?_ (fun hHeld => ?_)
            · (try dsimp only); (first | assumption | exact ⟨c2x, f3⟩ | exact HZ.1 | exact HZ.2.2 _ | (refine sees2f ?_ c2x c3 f3; (repeat (first | exact bnil _ | refine Below.drew ?_ | refine bnew ?_ _))))
            refine wpAnyH_take (i := 0) (oi := ⟨some 65, _, _, _, _, _⟩) (v := ?_) rfl (by kernel_rfl) (by kernel_rfl) (by kernel_rfl) (fun _ _ _ h => h) (Or.inl ⟨by rfl, ?_⟩) (by assumption) ?_
            rotate_left
            · intro w hSw; (try dsimp only at hSw); go_simp <;> with_reducible rfl
            try simp only [Act.put, List.setIfInBounds_toArray, List.set_cons_zero, List.set_cons_succ]
            refine wpAnyH_take (i := 1) (oi := ⟨some 66, _, _, _, _, _⟩) (v := ?_) rfl (by kernel_rfl) (by kernel_rfl) (by kernel_rfl) (fun _ _ _ h => h) (Or.inl ⟨by rfl, ?_⟩) (by assumption) ?_
            rotate_left
            · intro w hSw; (try dsimp only at hSw); go_simp <;> with_reducible rfl
            try simp only [Act.put, List.setIfInBounds_toArray, List.set_cons_zero, List.set_cons_succ]
            refine wpAnyH_take (i := 2) (oi := ⟨some 67, _, _, _, _, _⟩) (v := ?_) rfl (by kernel_rfl) (by kernel_rfl) (by kernel_rfl) (fun _ _ _ h => h) (Or.inl ⟨by rfl, ?_⟩) (by assumption) ?_
            rotate_left
            · intro w hSw; (try dsimp only at hSw); go_simp <;> with_reducible rfl
            try simp only [Act.put, List.setIfInBounds_toArray, List.set_cons_zero, List.set_cons_succ]
            refine wpAnyH_take (i := 3) (oi := ⟨some 68, _, _, _, _, _⟩) (v := ?_) rfl (by kernel_rfl) (by kernel_rfl) (by kernel_rfl) (fun _ _ _ h => h) (Or.inl ⟨by rfl, ?_⟩) (by assumption) ?_
            rotate_left
            · intro w hSw; (try dsimp only at hSw); go_simp <;> with_reducible rfl
            try simp only [Act.put, List.setIfInBounds_toArray, List.set_cons_zero, List.set_cons_succ]
            refine wpAnyH_take (i := 4) (oi := ⟨some 69, _, _, _, _, _⟩) (v := ?_) rfl (by kernel_rfl) (by kernel_rfl) (by kernel_rfl) (fun _ _ _ h => h) (Or.inl ⟨by rfl, ?_⟩) (by assumption) ?_
            rotate_left
            · intro w hSw; (try dsimp only at hSw); go_simp <;> with_reducible rfl
            try simp only [Act.put, List.setIfInBounds_toArray, List.set_cons_zero, List.set_cons_succ]
            refine wpAnyH_take (i := 6) (oi := ⟨some 71, _, _, _, _, _⟩) (v := ?_) rfl (by kernel_rfl) (by kernel_rfl) (by kernel_rfl) (fun _ _ _ h => h) (Or.inl ⟨by rfl, ?_⟩) (by assumption) ?_
            rotate_left
            · intro w hSw; (try dsimp only at hSw); go_simp <;> with_reducible rfl
            try simp only [Act.put, List.setIfInBounds_toArray, List.set_cons_zero, List.set_cons_succ]
            refine wpAnyH_ready (rs := [5, 7]) (by kernel_rfl) (by simp) ?_
            refine AllReadyH.cons (o := ⟨some 70, _, _, _, _, _⟩) rfl (fun K hK => ?_) ?_
            go_simp
            refine hK.out _ _ ?_ (fun hHeld => ?_)
            · (try dsimp only); (first | assumption | exact ⟨c2x, f3⟩ | exact HZ.1 | exact HZ.2.2 _ | (refine sees2f ?_ c2x c3 f3; (repeat (first | exact bnil _ | refine Below.drew ?_ | refine bnew ?_ _))))
            clear hK K
            try simp only [Act.put, List.setIfInBounds_toArray, List.set_cons_zero, List.set_cons_succ]
            refine wpAnyH_ready (rs := [7]) (by kernel_rfl) (by simp) ?_
            refine AllReadyH.cons (o := ⟨some 72, _, _, _, _, _⟩) rfl (fun K hK => ?_) AllReadyH.nil
            go_simp
            refine hK.out _ _ ?_ (fun hHeld => ?_)
            · (try dsimp only); (first | assumption | exact ⟨c2x, f3⟩ | exact HZ.1 | exact HZ.2.2 _ | (refine sees2f ?_ c2x c3 f3; (repeat (first | exact bnil _ | refine Below.drew ?_ | refine bnew ?_ _))))
            clear hK K
            try simp only [Act.put, List.setIfInBounds_toArray, List.set_cons_zero, List.set_cons_succ]
            refine wpAnyH_ready (rs := [8]) (by kernel_rfl) (by simp) ?_
            refine AllReadyH.cons (o := ⟨some 73, _, _, _, _, _⟩) rfl (fun K hK => ?_) AllReadyH.nil
            (refine step_appC elmCN gS_one rfl (.tmp 70) (.tmp 72) rfl (.slice Aj L cj) (((ath 20 j j) 1).zip (av 1)) rfl (HR.out.row _ (bnew (bnil _) _).drew) [((⟨1, []⟩ : VCall), ((⟨none, 0, 0⟩ : SV) : SV))] y HYE rfl (Sl.drew (Sl.fresh' _ #[_, _] 35 2 1 _ (by simp) rfl)) rfl (by rw [HYL.out]; simp only [maxLen]; omega) (by rw [HYL.out]; omega) (Nat.le_trans HR.out.size (bnew (bnil _) _).drew.size) ?_; intro E6 c6 w6 hc6 hc7 HN6 HG6 HO6; have HZ := HR.out.grow _ w6 (bnew (bnil _) _).drew HG6.out)
            refine hK.out _ _ ?_ (fun hHeld => ?_)
            · (try dsimp only); (first | assumption | exact ⟨c2x, f3⟩ | exact HZ.1 | exact HZ.2.2 _ | (refine sees2f ?_ c2x c3 f3; (repeat (first | exact bnil _ | refine Below.drew ?_ | refine bnew ?_ _))))
            clear hK K
            try simp only [Act.put, List.setIfInBounds_toArray, List.set_cons_zero, List.set_cons_succ]
            refine wpAnyH_take (i := 9) (oi := ⟨some 74, _, _, _, _, _⟩) (v := ?_) rfl (by kernel_rfl) (by kernel_rfl) (by kernel_rfl) (fun _ _ _ h => h) (Or.inl ⟨by rfl, ?_⟩) (by assumption) ?_
            rotate_left
            · intro w hSw; (try dsimp only at hSw); go_simp <;> with_reducible rfl
            try simp only [Act.put, List.setIfInBounds_toArray, List.set_cons_zero, List.set_cons_succ]
            refine wpAnyH_ready (rs := [10]) (by kernel_rfl) (by simp) ?_
            refine AllReadyH.cons (o := ⟨none, _, _, _, _, _⟩) rfl (fun K hK => ?_) AllReadyH.nil
            go_simp
            refine hK.out _ _ ?_ (fun hHeld => ?_)
            · (try dsimp only); (first | assumption | exact ⟨c2x, f3⟩ | exact HZ.1 | exact HZ.2.2 _ | (refine sees2f ?_ c2x c3 f3; (repeat (first | exact bnil _ | refine Below.drew ?_ | refine bnew ?_ _))))
            clear hK K
            try dsimp only [Act.put]
            refine wpAnyH_done (by kernel_rfl) ?_ _
            rotate_left
            refine AllReadyH.cons (o := ⟨some 72, _, _, _, _, _⟩) rfl (fun K hK => ?_) AllReadyH.nil
            go_simp
            refine hK.out _ _ ?_ (fun hHeld => ?_)
            · (try dsimp only); (first | assumption | exact ⟨c2x, f3⟩ | exact HZ.1 | exact HZ.2.2 _ | (refine sees2f ?_ c2x c3 f3; (repeat (first | exact bnil _ | refine Below.drew ?_ | refine bnew ?_ _))))
            clear hK K
            try simp only [Act.put, List.setIfInBounds_toArray, List.set_cons_zero, List.set_cons_succ]
            refine wpAnyH_ready (rs := [5]) (by kernel_rfl) (by simp) ?_
            refine AllReadyH.cons (o := ⟨some 70, _, _, _, _, _⟩) rfl (fun K hK => ?_) AllReadyH.nil
            go_simp
            refine hK.out _ _ ?_ (fun hHeld => ?_)
            · (try dsimp only); (first | assumption | exact ⟨c2x, f3⟩ | exact HZ.1 | exact HZ.2.2 _ | (refine sees2f ?_ c2x c3 f3; (repeat (first | exact bnil _ | refine Below.drew ?_ | refine bnew ?_ _))))
            clear hK K
            try simp only [Act.put, List.setIfInBounds_toArray, List.set_cons_zero, List.set_cons_succ]
            refine wpAnyH_ready (rs := [8]) (by kernel_rfl) (by simp) ?_
            refine AllReadyH.cons (o := ⟨some 73, _, _, _, _, _⟩) rfl (fun K hK => ?_) AllReadyH.nil
            (refine step_appC elmCN gS_one rfl (.tmp 70) (.tmp 72) rfl (.slice Aj L cj) (((ath 20 j j) 1).zip (av 1)) rfl (HR.out.row _ (bnew (bnil _) _).drew) [((⟨1, []⟩ : VCall), ((⟨none, 0, 0⟩ : SV) : SV))] y HYE rfl (Sl.drew (Sl.fresh' _ #[_, _] 35 2 1 _ (by simp) rfl)) rfl (by rw [HYL.out]; simp only [maxLen]; omega) (by rw [HYL.out]; omega) (Nat.le_trans HR.out.size (bnew (bnil _) _).drew.size) ?_; intro E6 c6 w6 hc6 hc7 HN6 HG6 HO6; have HZ := HR.out.grow _ w6 (bnew (bnil _) _).drew HG6.out)
            refine hK.out _ _ ?_ (fun hHeld => ?_)
            · (try dsimp only); (first | assumption | exact ⟨c2x, f3⟩ | exact HZ.1 | exact HZ.2.2 _ | (refine sees2f ?_ c2x c3 f3; (repeat (first | exact bnil _ | refine Below.drew ?_ | refine bnew ?_ _))))
            clear hK K
            try simp only [Act.put, List.setIfInBounds_toArray, List.set_cons_zero, List.set_cons_succ]
            refine wpAnyH_take (i := 9) (oi := ⟨some 74, _, _, _, _, _⟩) (v := ?_) rfl (by kernel_rfl) (by kernel_rfl) (by kernel_rfl) (fun _ _ _ h => h) (Or.inl ⟨by rfl, ?_⟩) (by assumption) ?_
            rotate_left
            · intro w hSw; (try dsimp only at hSw); go_simp <;> with_reducible rfl
            try simp only [Act.put, List.setIfInBounds_toArray, List.set_cons_zero, List.set_cons_succ]
            refine wpAnyH_ready (rs := [10]) (by kernel_rfl) (by simp) ?_
            refine AllReadyH.cons (o := ⟨none, _, _, _, _, _⟩) rfl (fun K hK => ?_) AllReadyH.nil
            go_simp
            refine hK.out _ _ ?_ (fun hHeld => ?_)
            · (try dsimp only); (first | assumption | exact ⟨c2x, f3⟩ | exact HZ.1 | exact HZ.2.2 _ | (refine sees2f ?_ c2x c3 f3; (repeat (first | exact bnil _ | refine Below.drew ?_ | refine bnew ?_ _))))
            clear hK K
            try dsimp only [Act.put]
            refine wpAnyH_done (by kernel_rfl) ?_ _
            rotate_left
            all_goals
              have HF := hid (HX.out.app (j := 1) (by omega) [⟨1, []⟩] [(⟨none, 0, 0⟩ : SV)] (bnew (bnil _) _).drew rfl (HOF.out _) HYE.out (by rw [HAJ.out]; exact HG6.out) (by rw [HAJ.out]; exact HO6.out) HN6.out)
              go_wp2_with fail
              go_meet
              exact ⟨_, _, hid (by have h1 := HF.out; rw [ath_1] at h1; exact h1)⟩
          case rest =>
            clear HX HLN
            obtain ⟨w22, hw22⟩ : ∃ w2, w2 = wc := ⟨_, rfl⟩
            rw [← hw22] at hcut ⊢
            clear hw22
            clear tv av
            obtain ⟨tv, av, HX⟩ := hcut
            have HLN := hid (show (ath 20 (j + 1) j 2).length ≤ 20 from ath_len (by decide) (by omega) (by omega))
            have HOF := hid (show ∀ (LIT : Obj) (k' : Nat) (c : VCall) (a : SV), ([⟨1, []⟩] : List VCall)[k']? = some c → ([(⟨none, 0, 0⟩ : SV)] : List SV)[k']? = some a → ((w22.alloc LIT).drew).ownsRow w.heap.size 3 1 a.v c.args.length (c.args.flatMap gI) from by
              intro LIT k' c a hc ha
              match k', hc, ha with
              | 0, hc, ha => injection hc with hc; injection ha with ha; subst hc ha; exact own0 _ _ _ 1
              | k + 1, hc, ha => cases hc)
            obtain ⟨Aj, cj, hAj, HR0⟩ := HX.out.row (j := 2) (by omega)
            obtain ⟨L, hL⟩ : ∃ L, ((ath 20 (j + 1) j) 2).length = L := ⟨_, rfl⟩
            rw [hL] at hAj HR0
            have hL18 : L ≤ 20 := by rw [← hL]; exact HLN.out
            obtain ⟨y, hy⟩ : ∃ y, ((ath 20 (j + 1) j) 2).zip (av 2) ++ [((⟨1, []⟩ : VCall), ((⟨none, 0, 0⟩ : SV) : SV))] = y := ⟨_, rfl⟩
            have HYE := hid hy
            have HYL := hid (show y.length = L + 1 by rw [← hy, List.length_append, HR0.len]; rfl)
            have HR := hid HR0
            have HAJ := hid hAj
            have c2x := HR.out.c2; have c3 := HR.out.c3; have f3 := HR.out.f3; have hcj := HR.out.hcj; have hcm := HR.out.hcm
            unfold maxLen at hcm
            clear hy HR0 hAj hL
            have ltT := World.block_lt_of_cell? w22 _ c3
            have ltX := World.block_lt_of_cell? w22 _ c2x
            have ltT1 : T < w22.heap.size + 1 := Nat.lt_succ_of_lt ltT
            have hq3 : ∀ o1 o2 : Obj, ((w22.alloc o1).alloc o2).cell? ⟨T, 2, none⟩ = some (.slice Aj L cj) := fun o1 o2 => cell_below (bnew (bnew (bnil w22) o1) o2) c3
            go_upto_region 23 with fail
            refine wp_region_held_drew (S := (fun w' => w'.cell? ⟨X, 2, none⟩ = some (.slice (some ⟨T, 0, none⟩) 3 3) ∧ w'.frozen? ⟨T, 2, none⟩ = false)) (by kernel_rfl) ?_ (fun hHeld => ?_)
            · (try dsimp only); (first | assumption | exact ⟨c2x, f3⟩ | exact HZ.1 | exact HZ.2.2 _ | (refine sees2f ?_ c2x c3 f3; (repeat (first | exact bnil _ | refine Below.drew ?_ | refine bnew ?_ _))))
            refine wpAnyH_take (i := 0) (oi := ⟨some 75, _, _, _, _, _⟩) (v := ?_) rfl (by kernel_rfl) (by kernel_rfl) (by kernel_rfl) (fun _ _ _ h => h) (Or.inl ⟨by rfl, ?_⟩) (by assumption) ?_
            rotate_left
            · intro w hSw; (try dsimp only at hSw); go_simp <;> with_reducible rfl
            try simp only [Act.put, List.setIfInBounds_toArray, List.set_cons_zero, List.set_cons_succ]
            refine wpAnyH_take (i := 1) (oi := ⟨some 76, _, _, _, _, _⟩) (v := ?_) rfl (by kernel_rfl) (by kernel_rfl) (by kernel_rfl) (fun _ _ _ h => h) (Or.inl ⟨by rfl, ?_⟩) (by assumption) ?_
            rotate_left
            · intro w hSw; (try dsimp only at hSw); go_simp <;> with_reducible rfl
            try simp only [Act.put, List.setIfInBounds_toArray, List.set_cons_zero, List.set_cons_succ]
            refine wpAnyH_take (i := 2) (oi := ⟨some 77, _, _, _, _, _⟩) (v := ?_) rfl (by kernel_rfl) (by kernel_rfl) (by kernel_rfl) (fun _ _ _ h => h) (Or.inl ⟨by rfl, ?_⟩) (by assumption) ?_
            rotate_left
            · intro w hSw; (try dsimp only at hSw); go_simp <;> with_reducible rfl
            try simp only [Act.put, List.setIfInBounds_toArray, List.set_cons_zero, List.set_cons_succ]
            refine wpAnyH_take (i := 3) (oi := ⟨some 78, _, _, _, _, _⟩) (v := ?_) rfl (by kernel_rfl) (by kernel_rfl) (by kernel_rfl) (fun _ _ _ h => h) (Or.inl ⟨by rfl, ?_⟩) (by assumption) ?_
            rotate_left
            · intro w hSw; (try dsimp only at hSw); go_simp <;> with_reducible rfl
            try simp only [Act.put, List.setIfInBounds_toArray, List.set_cons_zero, List.set_cons_succ]
            refine wpAnyH_take (i := 4) (oi := ⟨some 79, _, _, _, _, _⟩) (v := ?_) rfl (by kernel_rfl) (by kernel_rfl) (by kernel_rfl) (fun _ _ _ h => h) (Or.inl ⟨by rfl, ?_⟩) (by assumption) ?_
            rotate_left
            · intro w hSw; (try dsimp only at hSw); go_simp <;> with_reducible rfl
            try simp only [Act.put, List.setIfInBounds_toArray, List.set_cons_zero, List.set_cons_succ]
            refine wpAnyH_take (i := 6) (oi := ⟨some 81, _, _, _, _, _⟩) (v := ?_) rfl (by kernel_rfl) (by kernel_rfl) (by kernel_rfl) (fun _ _ _ h => h) (Or.inl ⟨by rfl, ?_⟩) (by assumption) ?_
            rotate_left
            · intro w hSw; (try dsimp only at hSw); go_simp <;> with_reducible rfl
            try simp only [Act.put, List.setIfInBounds_toArray, List.set_cons_zero, List.set_cons_succ]
            refine wpAnyH_ready (rs := [5, 7]) (by kernel_rfl) (by simp) ?_
            refine AllReadyH.cons (o := ⟨some 80, _, _, _, _, _⟩) rfl (fun K hK => ?_) ?_
            go_simp
            refine hK.out _ _ ?_ (fun hHeld => ?_)
            · (try dsimp only); (first | assumption | exact ⟨c2x, f3⟩ | exact HZ.1 | exact HZ.2.2 _ | (refine sees2f ?_ c2x c3 f3; (repeat (first | exact bnil _ | refine Below.drew ?_ | refine bnew ?_ _))))
            clear hK K
            try simp only [Act.put, List.setIfInBounds_toArray, List.set_cons_zero, List.set_cons_succ]
            refine wpAnyH_ready (rs := [7]) (by kernel_rfl) (by simp) ?_
            refine AllReadyH.cons (o := ⟨some 82, _, _, _, _, _⟩) rfl (fun K hK => ?_) AllReadyH.nil
            go_simp
            refine hK.out _ _ ?_ (fun hHeld => ?_)
            · (try dsimp only); (first | assumption | exact ⟨c2x, f3⟩ | exact HZ.1 | exact HZ.2.2 _ | (refine sees2f ?_ c2x c3 f3; (repeat (first | exact bnil _ | refine Below.drew ?_ | refine bnew ?_ _))))
            clear hK K
            try simp only [Act.put, List.setIfInBounds_toArray, List.set_cons_zero, List.set_cons_succ]
            refine wpAnyH_ready (rs := [8]) (by kernel_rfl) (by simp) ?_
            refine AllReadyH.cons (o := ⟨some 83, _, _, _, _, _⟩) rfl (fun K hK => ?_) AllReadyH.nil
            (refine step_appC elmCN gS_one rfl (.tmp 80) (.tmp 82) rfl (.slice Aj L cj) (((ath 20 (j + 1) j) 2).zip (av 2)) rfl (HR.out.row _ (bnew (bnil _) _).drew) [((⟨1, []⟩ : VCall), ((⟨none, 0, 0⟩ : SV) : SV))] y HYE rfl (Sl.drew (Sl.fresh' _ #[_, _] 35 2 1 _ (by simp) rfl)) rfl (by rw [HYL.out]; simp only [maxLen]; omega) (by rw [HYL.out]; omega) (Nat.le_trans HR.out.size (bnew (bnil _) _).drew.size) ?_; intro E6 c6 w6 hc6 hc7 HN6 HG6 HO6; have HZ := HR.out.grow _ w6 (bnew (bnil _) _).drew HG6.out)
            refine hK.out _ _ ?_ (fun hHeld => ?_)
            · (try dsimp only); (first | assumption | exact ⟨c2x, f3⟩ | exact HZ.1 | exact HZ.2.2 _ | (refine sees2f ?_ c2x c3 f3; (repeat (first | exact bnil _ | refine Below.drew ?_ | refine bnew ?_ _))))
            clear hK K
            try simp only [Act.put, List.setIfInBounds_toArray, List.set_cons_zero, List.set_cons_succ]
            refine wpAnyH_take (i := 9) (oi := ⟨some 84, _, _, _, _, _⟩) (v := ?_) rfl (by kernel_rfl) (by kernel_rfl) (by kernel_rfl) (fun _ _ _ h => h) (Or.inl ⟨by rfl, ?_⟩) (by assumption) ?_
            rotate_left
            · intro w hSw; (try dsimp only at hSw); go_simp <;> with_reducible rfl
            try simp only [Act.put, List.setIfInBounds_toArray, List.set_cons_zero, List.set_cons_succ]
            refine wpAnyH_ready (rs := [10]) (by kernel_rfl) (by simp) ?_
            refine AllReadyH.cons (o := ⟨none, _, _, _, _, _⟩) rfl (fun K hK => ?_) AllReadyH.nil
            go_simp
            refine hK.out _ _ ?_ (fun hHeld => ?_)
            · (try dsimp only); (first | assumption | exact ⟨c2x, f3⟩ | exact HZ.1 | exact HZ.2.2 _ | (refine sees2f ?_ c2x c3 f3; (repeat (first | exact bnil _ | refine Below.drew ?_ | refine bnew ?_ _))))
            clear hK K
            try dsimp only [Act.put]
            refine wpAnyH_done (by kernel_rfl) ?_ _
            rotate_left
            refine AllReadyH.cons (o := ⟨some 82, _, _, _, _, _⟩) rfl (fun K hK => ?_) AllReadyH.nil
            go_simp
            refine hK.out _ _ ?_ (fun hHeld => ?_)
            · (try dsimp only); (first | assumption | exact ⟨c2x, f3⟩ | exact HZ.1 | exact HZ.2.2 _ | (refine sees2f ?_ c2x c3 f3; (repeat (first | exact bnil _ | refine Below.drew ?_ | refine bnew ?_ _))))
            clear hK K
            try simp only [Act.put, List.setIfInBounds_toArray, List.set_cons_zero, List.set_cons_succ]
            refine wpAnyH_ready (rs := [5]) (by kernel_rfl) (by simp) ?_
            refine AllReadyH.cons (o := ⟨some 80, _, _, _, _, _⟩) rfl (fun K hK => ?_) AllReadyH.nil
            go_simp
            refine hK.out _ _ ?_ (fun hHeld => ?_)
            · (try dsimp only); (first | assumption | exact ⟨c2x, f3⟩ | exact HZ.1 | exact HZ.2.2 _ | (refine sees2f ?_ c2x c3 f3; (repeat (first | exact bnil _ | refine Below.drew ?_ | refine bnew ?_ _))))
            clear hK K
            try simp only [Act.put, List.setIfInBounds_toArray, List.set_cons_zero, List.set_cons_succ]
            refine wpAnyH_ready (rs := [8]) (by kernel_rfl) (by simp) ?_
            refine AllReadyH.cons (o := ⟨some 83, _, _, _, _, _⟩) rfl (fun K hK => ?_) AllReadyH.nil
            (refine step_appC elmCN gS_one rfl (.tmp 80) (.tmp 82) rfl (.slice Aj L cj) (((ath 20 (j + 1) j) 2).zip (av 2)) rfl (HR.out.row _ (bnew (bnil _) _).drew) [((⟨1, []⟩ : VCall), ((⟨none, 0, 0⟩ : SV) : SV))] y HYE rfl (Sl.drew (Sl.fresh' _ #[_, _] 35 2 1 _ (by simp) rfl)) rfl (by rw [HYL.out]; simp only [maxLen]; omega) (by rw [HYL.out]; omega) (Nat.le_trans HR.out.size (bnew (bnil _) _).drew.size) ?_; intro E6 c6 w6 hc6 hc7 HN6 HG6 HO6; have HZ := HR.out.grow _ w6 (bnew (bnil _) _).drew HG6.out)
            refine hK.out _ _ ?_ (fun hHeld => ?_)
            · (try dsimp only); (first | assumption | exact ⟨c2x, f3⟩ | exact HZ.1 | exact HZ.2.2 _ | (refine sees2f ?_ c2x c3 f3; (repeat (first | exact bnil _ | refine Below.drew ?_ | refine bnew ?_ _))))
            clear hK K
            try simp only [Act.put, List.setIfInBounds_toArray, List.set_cons_zero, List.set_cons_succ]
            refine wpAnyH_take (i := 9) (oi := ⟨some 84, _, _, _, _, _⟩) (v := ?_) rfl (by kernel_rfl) (by kernel_rfl) (by kernel_rfl) (fun _ _ _ h => h) (Or.inl ⟨by rfl, ?_⟩) (by assumption) ?_
            rotate_left
            · intro w hSw; (try dsimp only at hSw); go_simp <;> with_reducible rfl
            try simp only [Act.put, List.setIfInBounds_toArray, List.set_cons_zero, List.set_cons_succ]
            refine wpAnyH_ready (rs := [10]) (by kernel_rfl) (by simp) ?_
            refine AllReadyH.cons (o := ⟨none, _, _, _, _, _⟩) rfl (fun K hK => ?_) AllReadyH.nil
            go_simp
            refine hK.out _ _ ?_ (fun hHeld => ?_)
            · (try dsimp only); (first | assumption | exact ⟨c2x, f3⟩ | exact HZ.1 | exact HZ.2.2 _ | (refine sees2f ?_ c2x c3 f3; (repeat (first | exact bnil _ | refine Below.drew ?_ | refine bnew ?_ _))))
            clear hK K
            try dsimp only [Act.put]
            refine wpAnyH_done (by kernel_rfl) ?_ _
            rotate_left
            all_goals
              have HF := hid (HX.out.app (j := 2) (by omega) [⟨1, []⟩] [(⟨none, 0, 0⟩ : SV)] (bnew (bnil _) _).drew rfl (HOF.out _) HYE.out (by rw [HAJ.out]; exact HG6.out) (by rw [HAJ.out]; exact HO6.out) HN6.out)
              go_wp2_with fail
              go_roundw
              case rel => exact ⟨j + 1, _, _, by omega, by go_num, hid (by have h1 := HF.out; rw [ath_2] at h1; exact h1)⟩
              case measure => simp [intOf]; omega
        · obtain rfl : j = 8 := by omega
          have i2 : ¬ ((8 : Nat) : Int) < 8 := by omega
          have HMA := hid (agM_at HX.out.mn h1 h6)
          have HWR := hid (show wr.ownsRow w.heap.size 3 1 (.slice AW n cW) n ((List.replicate n (0 : Int)).flatMap gI) by have h := HX.out.own; rw [List.length_replicate] at h; exact h)
          have HTR := hid (HT.out.below HX.out.below)
          have BR := hid HX.out.below
          have HSS := hid (HS.out.below HX.out.below)
          have x0 : wr.cell? ⟨X, 0, none⟩ = some (.slice AW n cW) := HX.out.hx.cell 0
          have x1 : wr.cell? ⟨X, 1, none⟩ = some (.slice (some ⟨Cb, 0, none⟩) 2 2) := HX.out.hx.cell 1
          have x2 : wr.cell? ⟨X, 2, none⟩ = some (.slice (some ⟨T, 0, none⟩) 3 3) := HX.out.hx.cell 2
          clear HX BA
          go_upto_region 24 with fail
          refine wp_region_held_drew (S := (fun w' => w'.cell? ⟨X, 0, none⟩ = some (.slice AW n cW) ∧ w'.cell? ⟨X, 1, none⟩ = some (.slice (some ⟨Cb, 0, none⟩) 2 2) ∧ w'.cell? ⟨X, 2, none⟩ = some (.slice (some ⟨T, 0, none⟩) 3 3))) (by kernel_rfl) ?_ (fun hHeld => ?_)
          · (try dsimp only); (first | assumption | exact ⟨x0, x1, x2⟩ | exact ⟨cell_below b5 x0, cell_below b5 x1, cell_below b5 x2⟩ | exact ⟨cell_below b6 x0, cell_below b6 x1, cell_below b6 x2⟩)
          refine wpAnyH_take (i := 0) (oi := ⟨some 85, _, _, _, _, _⟩) (v := ?_) rfl (by kernel_rfl) (by kernel_rfl) (by kernel_rfl) (fun _ _ _ h => h) (Or.inl ⟨by rfl, ?_⟩) (by assumption) ?_
          rotate_left
          · intro w hSw; (try dsimp only at hSw); go_simp <;> with_reducible rfl
          try simp only [Act.put, List.setIfInBounds_toArray, List.set_cons_zero, List.set_cons_succ]
          refine wpAnyH_take (i := 1) (oi := ⟨some 86, _, _, _, _, _⟩) (v := ?_) rfl (by kernel_rfl) (by kernel_rfl) (by kernel_rfl) (fun _ _ _ h => h) (Or.inl ⟨by rfl, ?_⟩) (by assumption) ?_
          rotate_left
          · intro w hSw; (try dsimp only at hSw); go_simp <;> with_reducible rfl
          try simp only [Act.put, List.setIfInBounds_toArray, List.set_cons_zero, List.set_cons_succ]
          refine wpAnyH_take (i := 2) (oi := ⟨some 87, _, _, _, _, _⟩) (v := ?_) rfl (by kernel_rfl) (by kernel_rfl) (by kernel_rfl) (fun _ _ _ h => h) (Or.inl ⟨by rfl, ?_⟩) (by assumption) ?_
          rotate_left
          · intro w hSw; (try dsimp only at hSw); go_simp <;> with_reducible rfl
          try simp only [Act.put, List.setIfInBounds_toArray, List.set_cons_zero, List.set_cons_succ]
          refine wpAnyH_ready (rs := [3]) (by kernel_rfl) (by simp) ?_
          refine AllReadyH.cons (o := ⟨some 88, _, _, _, _, _⟩) rfl (fun K hK => ?_) AllReadyH.nil
          go_simp
          refine (schedule_n S p q 3 900 bs wr.drew hpl (by decide) (by decide) (by decide) (HSS.out.below (bnil _).drew)).mono ?_; rintro e w5 ⟨v5, rfl, ho⟩; have hl9 : (schedN bs 3 900).length ≤ 900 := (by rw [schedN_len]; omega); have HLT := hid (schedN_lt bs (N := 3) (by decide) 900); generalize schedN bs 3 900 = all at *; obtain ⟨Al, cl, rfl, hcl, hcl2⟩ := ho.form; have b5 := bgo (bnil wr).drew ho.below; have HOW := hid ho; have HCL := hid hcl; clear ho hcl hcl2; rw [show (nats all).length = all.length by simp] at *
          go_wp2_with fail
          refine hK.out _ _ ?_ (fun hHeld => ?_)
          · (try dsimp only); (first | assumption | exact ⟨x0, x1, x2⟩ | exact ⟨cell_below b5 x0, cell_below b5 x1, cell_below b5 x2⟩ | exact ⟨cell_below b6 x0, cell_below b6 x1, cell_below b6 x2⟩)
          clear hK K
          try simp only [Act.put, List.setIfInBounds_toArray, List.set_cons_zero, List.set_cons_succ]
          refine wpAnyH_ready (rs := [4]) (by kernel_rfl) (by simp) ?_
          refine AllReadyH.cons (o := ⟨some 89, _, _, _, _, _⟩) rfl (fun K hK => ?_) AllReadyH.nil
          go_simp
          refine (never_of AW cW Cb T n Al all.length cl all w5 h2 h6 (by omega) HCL.out (HTR.out.below b5) (HMA.out.below b5) (Sl.own (own_below HWR.out b5)) (Sl.own (by have h := HOW.out.own; rw [show (nats all).length = all.length by simp] at h; exact h)) HLT.out).mono ?_; rintro e w6 ⟨rfl, b6⟩; have b6 := bgo b5 b6
          go_wp2_with fail
          refine hK.out _ _ ?_ (fun hHeld => ?_)
          · (try dsimp only); (first | assumption | exact ⟨x0, x1, x2⟩ | exact ⟨cell_below b5 x0, cell_below b5 x1, cell_below b5 x2⟩ | exact ⟨cell_below b6 x0, cell_below b6 x1, cell_below b6 x2⟩)
          clear hK K
          try simp only [Act.put, List.setIfInBounds_toArray, List.set_cons_zero, List.set_cons_succ]
          refine wpAnyH_take (i := 5) (oi := ⟨some 90, _, _, _, _, _⟩) (v := ?_) rfl (by kernel_rfl) (by kernel_rfl) (by kernel_rfl) (fun _ _ _ h => h) (Or.inl ⟨by rfl, ?_⟩) (by assumption) ?_
          rotate_left
          · intro w hSw; (try dsimp only at hSw); go_simp <;> with_reducible rfl
          try simp only [Act.put, List.setIfInBounds_toArray, List.set_cons_zero, List.set_cons_succ]
          refine wpAnyH_done (by kernel_rfl) ?_ _
          rotate_left
          all_goals
            obtain ⟨wq, hwq⟩ : ∃ wq, wq = w6 := ⟨_, rfl⟩
            rw [← hwq] at b6 ⊢
            clear hwq
            have BQ := hid (bgo BR.out b6)
            have HMQ := hid (HMA.out.below b6)
            have HWQ := hid (own_below HWR.out b6)
            have HTQ := hid (HTR.out.below b6)
            have x0 := cell_below b6 x0; have x1 := cell_below b6 x1; have x2 := cell_below b6 x2
            have X0 := hid x0; have X1 := hid x1; have X2 := hid x2
            obtain ⟨W0, hW0⟩ : ∃ W0, pk yi 40 = W0 := ⟨_, rfl⟩
            have hW40 : W0 < 40 := by have := pk_lt yi 40 (by decide); omega
            have HPY := hid hW0
            have HYB := hid (And.intro hb hb1)
            clear hW0 hb hb1 b6 b5 x0 x1 x2 HSS HTR HMA HWR BR HOW HCL HLT hl9
            go_wp2_with fail
            go_loopw [15] (fun v wx => ∃ sl : Nat, sl ≤ 40 ∧ v = .int .i64 sl ∧ Hid (Below wq.heap.size wq wx)) (fun v _ => 40 - (intOf v).toNat)
            case atStart => exact ⟨0, Nat.zero_le _, rfl, hid (bnil _)⟩
            case round =>
              obtain ⟨sl, hsl, rfl, BS⟩ := hrel
              by_cases hsl4 : sl < 40
              · have i3 : (sl : Int) < 40 := by omega
                obtain ⟨wz, hwz⟩ : ∃ wz, wz = wr := ⟨_, rfl⟩
                rw [← hwz] at BS ⊢
                clear hwz
                go_wp2_with fail
                go_loopw [16, 17] (fun u v wx => ∃ (k : Nat) (lb : List Nat) (A1 : Option Addr) (c1 : Nat), k ≤ W0 ∧ v = .int .i64 k ∧ u = .slice A1 k c1 ∧ Hid (lb.length = k) ∧ Hid (∀ x ∈ lb, x < 3) ∧ Hid (Ow wz wx 3 1 gI (.slice A1 k c1) (nats lb))) (fun _ v _ => W0 - (intOf v).toNat)
                case atStart => exact ⟨0, [], none, 0, Nat.zero_le _, rfl, rfl, hid rfl, hid (by intro x hx; cases hx), hid (Ow.nil _ _ _ _)⟩
                case round =>
                  obtain ⟨k, lb, A1, c1, hk, rfl, rfl, HLB, HBL, HO⟩ := hrel
                  go_wp2_with fail
                  refine (picked yi 40 wr (by decide) HYB.out.1 HYB.out.2 (by decide)).mono ?_
                  rintro e w' ⟨rfl, rfl⟩
                  rw [HPY.out]
                  by_cases hkw : k < W0
                  · have i4 : (k : Int) < (W0 : Int) := by omega
                    obtain ⟨y, hy⟩ : ∃ y, nats lb ++ [(0 : Int)] = y := ⟨_, rfl⟩
                    have HYE := hid (show y = nats (lb ++ [0]) by rw [← hy]; unfold nats; rw [List.map_append]; rfl)
                    have HY := hid hy
                    have HLB2 := hid (show (lb ++ [0]).length = k + 1 by rw [List.length_append, HLB.out]; rfl)
                    have HYN := hid (show y.length = k + 1 by rw [HYE.out]; unfold nats; rw [List.length_map]; exact HLB2.out)
                    have HBL2 := hid (show ∀ x ∈ lb ++ [0], x < 3 from fun x hx => by
                      rcases List.mem_append.1 hx with hx | hx
                      · exact HBL.out x hx
                      · rw [List.mem_singleton.1 hx]; decide)
                    clear hy
                    go_wp2_with (at_builtin; refine wpList_appY elmI gI_one rfl (.tmp 101) (.tmp 102) rfl (.slice A1 k c1) _ rfl (HO.out.alloc _) [(0 : Int)] y HY rfl (Sl.fresh wr #[_] 3 1 1 rfl) (by go_num) (by rw [HYN.out]; simp only [maxLen]; omega) (by rw [HYN.out]; omega) ?_; intro A4 c4 w4 hc4 hc5 HN1 _ _)
                    go_roundw
                    case rel => exact ⟨k + 1, lb ++ [0], A4, c4, by omega, by go_num, by rw [HYN.out], HLB2, HBL2, hid (by have h1 := HN1.out; rw [HYN.out] at h1; rw [← HYE.out]; exact h1)⟩
                    case measure => simp [intOf]; omega
                  · have i4 : ¬ (k : Int) < (W0 : Int) := by omega
                    obtain ⟨LB, hLB⟩ : ∃ L, k = L := ⟨_, rfl⟩
                    rw [hLB] at HLB HO i4 ⊢
                    have hLB40 : LB ≤ 40 := by omega
                    clear hLB hkw hk
                    go_wp2_with fail
                    go_loopw [16, 18] (fun u v wx => ∃ (k2 : Nat) (lb : List Nat) (LB : Nat) (A1 : Option Addr) (c1 : Nat), k2 ≤ 60 ∧ LB ≤ 40 + 41 * k2 ∧ v = .int .i64 k2 ∧ u = .slice A1 LB c1 ∧ Hid (lb.length = LB) ∧ Hid (∀ x ∈ lb, x < 3) ∧ Hid (Ow wz wx 3 1 gI (.slice A1 LB c1) (nats lb))) (fun _ v _ => 60 - (intOf v).toNat)
                    case atStart => exact ⟨0, lb, LB, A1, c1, Nat.zero_le _, by omega, rfl, rfl, HLB, HBL, HO⟩
                    case round =>
                      clear HLB HBL HO hLB40 i4
                      obtain ⟨k2, lb, LB, A1, c1, hk2, hLB, rfl, rfl, HLB, HBL, HO⟩ := hrel
                      by_cases hk6 : k2 < 60
                      · have i5 : (k2 : Int) < 60 := by omega
                        obtain ⟨y, hy⟩ : ∃ y, nats lb ++ [(1 : Int)] = y := ⟨_, rfl⟩
                        have HYE := hid (show y = nats (lb ++ [1]) by rw [← hy]; unfold nats; rw [List.map_append]; rfl)
                        have HY := hid hy
                        have HLB2 := hid (show (lb ++ [1]).length = LB + 1 by rw [List.length_append, HLB.out]; rfl)
                        have HYN := hid (show y.length = LB + 1 by rw [HYE.out]; unfold nats; rw [List.length_map]; exact HLB2.out)
                        have HBL2 := hid (show ∀ x ∈ lb ++ [1], x < 3 from fun x hx => by
                          rcases List.mem_append.1 hx with hx | hx
                          · exact HBL.out x hx
                          · rw [List.mem_singleton.1 hx]; decide)
                        clear hy
                        go_upto_region 38 with (at_builtin; refine wpList_appY elmI gI_one rfl (.tmp 108) (.tmp 109) rfl (.slice A1 LB c1) _ rfl (HO.out.alloc _) [(1 : Int)] y HY rfl (Sl.fresh wr #[_] 3 1 1 rfl) (by go_num) (by rw [HYN.out]; simp only [maxLen]; omega) (by rw [HYN.out]; omega) ?_; intro A4 c4 w4 hc4 hc5 HN1 _ _)
                        rw [HYN.out] at HN1 ⊢
                        have HO2 := hid (show Ow wz w4 3 1 gI (.slice A4 (LB + 1) c4) (nats (lb ++ [1])) by rw [← HYE.out]; exact HN1.out)
                        clear HN1 HO HLB HBL HY HYE HYN hc4 hc5
                        obtain ⟨lc, hlc⟩ : ∃ lc, lb ++ [1] = lc := ⟨_, rfl⟩
                        obtain ⟨LC0, hLC0⟩ : ∃ L, LB + 1 = L := ⟨_, rfl⟩
                        rw [hlc, hLC0] at HLB2 HO2
                        rw [hlc] at HBL2
                        rw [hLC0]
                        have hLCb : LC0 ≤ 41 + 41 * k2 := by omega
                        clear hlc hLC0 hLB
                        go_wp2_with fail
                        go_loopw [16, 19] (fun u v wx => ∃ (k3 : Nat) (lb : List Nat) (LC : Nat) (A1 : Option Addr) (c1 : Nat), k3 ≤ sl ∧ LC ≤ LC0 + k3 ∧ v = .int .i64 k3 ∧ u = .slice A1 LC c1 ∧ Hid (lb.length = LC) ∧ Hid (∀ x ∈ lb, x < 3) ∧ Hid (Ow wz wx 3 1 gI (.slice A1 LC c1) (nats lb))) (fun _ v _ => sl - (intOf v).toNat)
                        case atStart => exact ⟨0, lc, LC0, A4, c4, Nat.zero_le _, Nat.le_refl _, rfl, rfl, HLB2, HBL2, HO2⟩
                        case round =>
                          clear HLB2 HBL2 HO2
                          obtain ⟨k3, lb, LC, A1, c1, hk3, hLC, rfl, rfl, HLB, HBL, HO⟩ := hrel
                          by_cases hks : k3 < sl
                          · have i6 : (k3 : Int) < (sl : Int) := by omega
                            obtain ⟨y, hy⟩ : ∃ y, nats lb ++ [(0 : Int)] = y := ⟨_, rfl⟩
                            have HYE := hid (show y = nats (lb ++ [0]) by rw [← hy]; unfold nats; rw [List.map_append]; rfl)
                            have HY := hid hy
                            have HLB2 := hid (show (lb ++ [0]).length = LC + 1 by rw [List.length_append, HLB.out]; rfl)
                            have HYN := hid (show y.length = LC + 1 by rw [HYE.out]; unfold nats; rw [List.length_map]; exact HLB2.out)
                            have HBL2 := hid (show ∀ x ∈ lb ++ [0], x < 3 from fun x hx => by
                              rcases List.mem_append.1 hx with hx | hx
                              · exact HBL.out x hx
                              · rw [List.mem_singleton.1 hx]; decide)
                            clear hy
                            go_wp2_with (at_builtin; refine wpList_appY elmI gI_one rfl (.tmp 116) (.tmp 117) rfl (.slice A1 LC c1) _ rfl (HO.out.alloc _) [(0 : Int)] y HY rfl (Sl.fresh wr #[_] 3 1 1 rfl) (by go_num) (by rw [HYN.out]; simp only [maxLen]; omega) (by rw [HYN.out]; omega) ?_; intro A4 c4 w4 hc4 hc5 HN1 _ _)
                            go_roundw
                            case rel => exact ⟨k3 + 1, lb ++ [0], LC + 1, A4, c4, by omega, by omega, by go_num, by rw [HYN.out], HLB2, HBL2, hid (by have h1 := HN1.out; rw [HYN.out] at h1; rw [← HYE.out]; exact h1)⟩
                            case measure => simp [intOf]; omega
                          · obtain rfl : sl = k3 := by omega
                            have i6 : ¬ (sl : Int) < (sl : Int) := by omega
                            go_wp2_with fail
                            go_roundw
                            case rel => exact ⟨k2 + 1, by omega, lb, LC, by omega, by omega, A1, c1, ⟨rfl, rfl, rfl⟩, HLB, HBL, HO⟩
                            case measure => simp [intOf]; omega
                      · obtain rfl : k2 = 60 := by omega
                        have i5 : ¬ ((60 : Nat) : Int) < 60 := by omega
                        have BW := hid (bgo BS.out HO.out.below)
                        have x0 := cell_below BW.out X0.out; have x1 := cell_below BW.out X1.out; have x2 := cell_below BW.out X2.out
                        have hcap : LB ≤ c1 := by obtain ⟨_, _, e, h1, _⟩ := HO.out.form; injection e with e1 e2 e3; rw [show (nats lb).length = LB by unfold nats; rw [List.length_map]; exact HLB.out] at h1; omega
                        have HSL := hid (show Sl wr 1 A1 LB (ints (lb.map fun x : Nat => (x : Int))) from by have h := HO.out.own; rw [show (nats lb).length = LB by unfold nats; rw [List.length_map]; exact HLB.out] at h; exact Sl.own h)
                        have HNV := hid (never_of AW cW Cb T n A1 LB c1 lb wr h2 h6 (by omega) hcap (HTQ.out.below BW.out) (HMQ.out.below BW.out) (Sl.own (own_below HWQ.out BW.out)) HSL.out HBL.out)
                        clear HSL HO hcap
                        go_wp2_with fail
                        refine HNV.out.mono ?_
                        rintro e w9 ⟨rfl, b9⟩
                        have BS9 := hid (bgo BW.out b9)
                        clear BW x0 x1 x2
                        go_wp2_with fail
                        go_roundw
                        case rel => exact ⟨sl + 1, by omega, by go_num, BS9⟩
                        case measure => simp [intOf]; omega
              · obtain rfl : sl = 40 := by omega
                have i3 : ¬ ((40 : Nat) : Int) < 40 := by omega
                go_wp2_with fail
                go_ret
                exact ⟨rfl, bgo BQ.out BS.out⟩
end
end Go.Proofs.YtabmkjokeeakdaaDoor
