/-
  EpochHolds: the inner function 'steps' by a contract.
-/
import Derived.Test.YtabmkjokeeakdaaDoorEpHo0
import Derived.Test.YtabmkjokeeakdaaDoorRan
import Derived.Test.YtabmkjokeeakdaaDoorDsAt
namespace Go.Proofs.YtabmkjokeeakdaaDoor
open Go.RowKit
set_option linter.unusedVariables false

/-- the schedule in memory: its variable S, and its row -/
structure HS (W1 w : World) (S : Nat) (As : Option Addr) (cS : Nat) (l : List Nat) : Prop where
  below : Below W1.heap.size W1 w
  geS : W1.heap.size ≤ S
  blk : Blk w S 25 #[.slice As l.length cS]
  row : w.ownsRow W1.heap.size 3 1 (.slice As l.length cS) (l.map fun x : Nat => (x : Int)).length ((l.map fun x : Nat => (x : Int)).flatMap gI)
theorem HS.step {W1 w w' : World} {S : Nat} {As : Option Addr} {cS : Nat} {l : List Nat} (h : HS W1 w S As cS l) (hb : Below w.heap.size w w') : HS W1 w' S As cS l :=
  ⟨bgo h.below hb, h.geS, h.blk.below' hb, own_below h.row hb⟩
/-- behind an append to the schedule -/
theorem HS.app {W1 w wA w6 : World} {S n : Nat} {As A6 : Option Addr} {cS c6 : Nat} {l : List Nat} (h : HS W1 w S As cS l) (hn : l.length = n) (hb : Below w.heap.size w wA) (t : Nat) {y : List Int} (hy : y = (l ++ [t]).map fun x : Nat => (x : Int))
    (hG : wA.grownBy w6 (Value.slice As n cS).ownBlock) (hN : Ow W1 w6 3 1 gI (.slice A6 y.length c6) y) : HS W1 (w6.setCell ⟨S, 0, none⟩ (.slice A6 y.length c6)) S A6 c6 (l ++ [t]) := by
  subst hn
  have hA := h.step hb
  have hC : Chg (fun k => (Value.slice As l.length cS).ownBlock = some k) wA w6 := Chg.of_grown hG fun _ e => e
  have hB : Blk w6 S 25 #[.slice As l.length cS] := hC.blk hA.blk fun e => own_ne_blk hA.row hA.blk (by decide) e
  have hl : y.length = (l ++ [t]).length := by rw [hy, List.length_map]
  have hne : (Value.slice A6 y.length c6).ownBlock ≠ some S := own_ne_blk hN.own hB (by decide)
  refine ⟨hN.below.setCell (p := ⟨S, 0, none⟩) h.geS _, h.geS, ?_, ?_⟩
  · have := hB.set_ 0 (.slice A6 y.length c6)
    rw [hl] at this ⊢
    exact this
  · have h1 : w6.ownsRow W1.heap.size 3 1 (.slice A6 y.length c6) y.length (y.flatMap gI) := hN.own
    have h2 := own_chg h1 ((Chg.refl (fun k => k = S) w6).setCell (p := ⟨S, 0, none⟩) (fun _ => rfl) (.slice A6 y.length c6)) fun k hk e => hne (by rw [hk, e])
    rw [← hy, ← hl]
    exact h2
theorem HS.mid {W1 w wA w6 : World} {S n : Nat} {As : Option Addr} {cS : Nat} {l : List Nat} (h : HS W1 w S As cS l) (hn : l.length = n) (hb : Below w.heap.size w wA) (hG : wA.grownBy w6 (Value.slice As n cS).ownBlock) : Blk w6 S 25 #[.slice As n cS] := by
  subst hn; exact
  (Chg.of_grown (M := fun k => (Value.slice As l.length cS).ownBlock = some k) hG fun _ e => e).blk (h.step hb).blk fun e => own_ne_blk (h.step hb).row (h.step hb).blk (by decide) e
/-- ended calls of a thread among some -/
def cntL (ds : List Dg) (t : Nat) : Nat := (ds.filter fun d => d.t == t && d.e.isSome).length
theorem cntL_le (ds : List Dg) (t : Nat) : cntL ds t ≤ ds.length := List.length_filter_le _ _
theorem cntL_next {ds : List Dg} {i : Nat} {d : Dg} (h : ds[i]? = some d) (t : Nat) : cntL (ds.take (i + 1)) t = cntL (ds.take i) t + (if d.t == t && d.e.isSome then 1 else 0) := by
  unfold cntL
  rw [List.take_add_one, h, List.filter_append, List.length_append]
  congr 1
  simp only [Option.toList_some, List.filter_cons, List.filter_nil]
  split <;> rfl
theorem noErr_pre {m : Mach} {a b : List Nat} (h : NoErr (play m (a ++ b)).evs) : NoErr (play m a).evs := by
  obtain ⟨u, hu, -⟩ := play_parts m (a ++ b) a.length (by simp)
  rw [List.take_left] at hu
  intro e he
  exact h e (by rw [hu]; exact List.mem_append_left _ he)
set_option maxHeartbeats 8000000 in
set_option maxRecDepth 100000 in
theorem steps_of (m : Mach) (nw t e K X S Cb T cW : Nat) (AW As : Option Addr) (cS : Nat) (l : List Nat) (W1 w : World) (hnw : nw ≤ 200) (he : e ≤ 1000) (ht : t < 4) (hx : Blk W1 X 29 #[.slice AW nw cW, .slice (some ⟨Cb, 0, none⟩) 4 4, .slice (some ⟨T, 0, none⟩) 4 4])
    (hm : MachAt W1 (some ⟨Cb, 0, none⟩) 4 (some ⟨T, 0, none⟩) 4 m) (hw : Sl W1 1 AW nw (ints m.words)) (hT : STab W1) (hs : HS W1 w S As cS l) (hp : Ph1 m t e l K) (hlen : l.length + K ≤ 3000) (hlt : ∀ x ∈ l, x < 4) (herr : NoErr (play m (l ++ List.replicate K t)).evs) (hdl : ∀ k, k ≤ K → (doings (play m (l ++ List.replicate k t)).evs).length ≤ 1000) :
    Calls Tryd.prog 18 #[.int .i64 (t : Int), .int .i64 (e : Int), .pointer (some ⟨X, 0, none⟩), .pointer (some ⟨S, 0, none⟩)] w fun e' w' => e' = .returned (.bool true) ∧ ∃ (A' : Option Addr) (c' : Nat), HS W1 w' S A' c' (l ++ List.replicate K t) := by
  have HXB := hid hx; have HM := hid hm; have HW := hid hw; have HT := hid hT; have HS0 := hid hs; have HP := hid hp; have HLT := hid hlt; have HERR := hid herr; have HLN := hid hlen; have HDL := hid hdl
  have hK := hp.few
  clear hx hm hw hT hs hp hlt herr hlen hdl
  go_enter Tryd.func18, Tryd.ntmps18
  go_wp2_with fail
  go_loopw [7] (fun v wx => ∃ (k : Nat) (A' : Option Addr) (c' : Nat), k ≤ K ∧ v = .int .i64 k ∧ Hid (HS W1 wx S A' c' (l ++ List.replicate k t))) (fun v _ => 300 - (intOf v).toNat)
  case atStart => exact ⟨0, As, cS, Nat.zero_le _, rfl, hid (by rw [List.replicate_zero, List.append_nil]; exact HS0.out)⟩
  case round =>
    clear HS0
    obtain ⟨k, A', c', hkK, rfl, HS1⟩ := hrel
    have k3 : (k : Int) < 300 := by omega
    obtain ⟨lk, hlk⟩ : ∃ lk, l ++ List.replicate k t = lk := ⟨_, rfl⟩
    have HLK := hid hlk
    have HLE := hid (show lk.length ≤ 3000 by rw [← hlk, List.length_append, List.length_replicate]; have := HLN.out; omega)
    have HL4 := hid (show ∀ x ∈ lk, x < 4 by rw [← hlk]; intro x hx; rcases List.mem_append.1 hx with hx | hx; exact HLT.out x hx; rw [List.eq_of_mem_replicate hx]; exact ht)
    have HNE := hid (show NoErr (play m lk).evs from noErr_pre (b := List.replicate (K - k) t) (by rw [← hlk, List.append_assoc, List.replicate_append_replicate, Nat.add_sub_cancel' hkK]; exact HERR.out))
    have HD1 := hid (show (doings (play m lk).evs).length ≤ 1000 by rw [← hlk]; exact HDL.out k hkK)
    rw [hlk] at HS1
    clear hlk
    obtain ⟨n, hn⟩ : ∃ n, lk.length = n := ⟨_, rfl⟩
    have y0 : wr.cell? ⟨X, 0, none⟩ = some (.slice AW nw cW) := (HXB.out.below' HS1.out.below).cell 0
    have y1 : wr.cell? ⟨X, 1, none⟩ = some (.slice (some ⟨Cb, 0, none⟩) 4 4) := (HXB.out.below' HS1.out.below).cell 1
    have y2 : wr.cell? ⟨X, 2, none⟩ = some (.slice (some ⟨T, 0, none⟩) 4 4) := (HXB.out.below' HS1.out.below).cell 2
    have s0 : wr.cell? ⟨S, 0, none⟩ = some (.slice A' n c') := by have := HS1.out.blk.cell 0; rw [hn] at this; exact this
    have hnc : n ≤ c' := by obtain ⟨_, _, e, h1, _⟩ := own_form HS1.out.row; injection e with e1 e2 e3; rw [List.length_map, hn] at h1; omega
    have HSL := hid (show Sl wr 1 A' n (ints (lk.map fun x : Nat => (x : Int))) from by have h := HS1.out.row; rw [List.length_map, hn] at h; exact Sl.own h)
    have hn3 : n ≤ 3000 := by rw [← hn]; exact HLE.out
    have HNN := hid hn
    clear hn
    go_wp2_with fail
    refine (ran_of AW (some ⟨Cb, 0, none⟩) (some ⟨T, 0, none⟩) A' nw cW 4 4 4 4 n c' m lk wr hnw (by decide) (by decide) (by omega) hnc (HT.out.below HS1.out.below) (HM.out.below HS1.out.below) (HW.out.below HS1.out.below) HSL.out HL4.out HNE.out (play_fin _ _)).mono ?_
    rintro e' w5 ⟨v3, rs, rfl, hrow, hrs, htold, b5⟩
    obtain ⟨A3, c3, rfl, hc3, hc3'⟩ := own_form hrow
    obtain ⟨L, hL⟩ : ∃ L, rs.length = L := ⟨_, rfl⟩
    rw [hL] at hrow hc3 ⊢
    have HD := hid (DsAt.mk hL hrow htold)
    have HRS := hid hrs
    have hL1 : L ≤ 1000 := by rw [← hL]; have := congrArg List.length hrs; rw [List.length_map] at this; rw [this]; exact HD1.out
    have HRL := hid (show (doings (play m lk).evs).length = L by rw [← hrs, List.length_map, hL])
    have HS5 := hid (HS1.out.step b5)
    have s5 : w5.cell? ⟨S, 0, none⟩ = some (.slice A' n c') := cell_below b5 s0
    clear hrow htold hrs hL b5 y0 y1 y2 s0 HS1 HSL hc3 hc3'
    go_wp2_with fail
    go_loopw [10, 11] (fun u v wx => ∃ (i c : Nat), i ≤ L ∧ v = .int .i64 i ∧ u = .int .i64 c ∧ c = cntL ((doings (play m lk).evs).take i) t ∧ wx = w5) (fun _ v _ => L - (intOf v).toNat)
    case atStart => exact ⟨0, 0, Nat.zero_le _, rfl, rfl, rfl, rfl⟩
    case round =>
      obtain ⟨i, c, hiL, rfl, rfl, hc, rfl⟩ := hrel
      have HC := hid hc
      have hcL : c ≤ L := by rw [hc]; refine Nat.le_trans (cntL_le _ _) ?_; rw [List.length_take, HRL.out]; omega
      clear hc
      by_cases hli : i < L
      · have j1 : (i : Int) < (L : Int) := by omega
        obtain ⟨b9, d, Ad, cd, rfl, hd, -, -, k1, k2, -, -, -⟩ := HD.out.at_ (i := i) hli
        rw [HRS.out] at hd
        obtain ⟨E0, hE0⟩ : ∃ E0 : Int, eI d.e = E0 := ⟨_, rfl⟩
        obtain ⟨dt, hdt⟩ : ∃ dt : Nat, d.t = dt := ⟨_, rfl⟩
        rw [hE0] at k1
        rw [hdt] at k2
        have hsome : d.e.isSome = true ↔ E0 ≠ -1 := by
          rw [← hE0]
          cases d.e with
          | none => exact ⟨fun h => (by cases h), fun h => absurd rfl h⟩
          | some z => exact ⟨fun _ => (by show ((z : Nat) : Int) ≠ -1; omega), fun _ => rfl⟩
        have HCN := hid (show cntL ((doings (play m lk).evs).take (i + 1)) t = c + (if dt = t ∧ E0 ≠ -1 then 1 else 0) by
          rw [cntL_next hd t, ← HC.out, hdt]
          congr 1
          by_cases h1 : dt = t
          · by_cases h2 : E0 = -1
            · rw [if_neg (c := (dt == t && d.e.isSome) = true) (by rw [Bool.and_eq_true]; exact fun h => hsome.1 h.2 h2), if_neg (fun h => h.2 h2)]
            · rw [if_pos (c := (dt == t && d.e.isSome) = true) (by rw [Bool.and_eq_true]; exact ⟨by rw [h1]; exact beq_self_eq_true t, hsome.2 h2⟩), if_pos ⟨h1, h2⟩]
          · rw [if_neg (c := (dt == t && d.e.isSome) = true) (by rw [Bool.and_eq_true]; exact fun h => h1 (eq_of_beq h.1)), if_neg (fun h => h1 h.1)])
        clear hd hE0 hdt hsome
        by_cases h1 : dt = t
        · have q1 : ((dt : Int) == (t : Int)) = true := by rw [h1]; exact beq_self_eq_true _
          by_cases h2 : E0 = -1
          · have q2 : (E0 != -1) = false := by rw [h2]; rfl
            have HCE := hid (show c = cntL ((doings (play m lk).evs).take (i + 1)) t by rw [HCN.out, if_neg (by intro h; exact h.2 h2)]; rfl)
            clear h1 h2
            go_wp2_with fail
            go_roundw
            case rel => exact ⟨i + 1, c, by omega, by go_num, rfl, HCE.out, trivial⟩
            case measure => simp [intOf]; omega
          · have q2 : (E0 != -1) = true := by simpa using h2
            have HCE := hid (show c + 1 = cntL ((doings (play m lk).evs).take (i + 1)) t by rw [HCN.out, if_pos ⟨h1, h2⟩])
            clear h1 h2
            go_wp2_with fail
            go_roundw
            case rel => exact ⟨i + 1, c + 1, by omega, by go_num, by go_num, HCE.out, trivial⟩
            case measure => simp [intOf]; omega
        · have q1 : ((dt : Int) == (t : Int)) = false := beqF (by omega)
          have HCE := hid (show c = cntL ((doings (play m lk).evs).take (i + 1)) t by rw [HCN.out, if_neg (by intro h; exact h1 h.1)]; rfl)
          clear h1
          go_wp2_with fail
          go_roundw
          case rel => exact ⟨i + 1, c, by omega, by go_num, rfl, HCE.out, trivial⟩
          case measure => simp [intOf]; omega
      · obtain rfl : i = L := by omega
        have j1 : ¬ (i : Int) < (i : Int) := by omega
        have HCD := hid (show c = cntD (play m lk).evs t by rw [HC.out, List.take_of_length_le (by rw [HRL.out]; exact Nat.le_refl _)]; rfl)
        clear HC
        by_cases hkk : k = K
        · have j2 : (e : Int) ≤ (c : Int) := by have h := HP.out.full; rw [← hkk, HLK.out, ← HCD.out] at h; omega
          have HFIN := hid (show HS W1 wr S A' c' (l ++ List.replicate K t) by rw [← hkk, HLK.out]; exact HS5.out)
          clear hkk
          go_wp2_with fail
          go_ret
          exact ⟨rfl, _, _, HFIN.out⟩
        · have hkl : k < K := by omega
          have j2 : ¬ (e : Int) ≤ (c : Int) := by have h := HP.out.less k hkl; rw [HLK.out, ← HCD.out] at h; omega
          clear hkk
          obtain ⟨y, hy⟩ : ∃ y, (lk.map fun x : Nat => (x : Int)) ++ [(t : Int)] = y := ⟨_, rfl⟩
          have HY := hid hy
          have HYE := hid (show y = (lk ++ [t]).map fun x : Nat => (x : Int) by rw [← hy, List.map_append]; rfl)
          have HYL := hid (show y.length = n + 1 by rw [← hy, List.length_append, List.length_map, HNN.out]; rfl)
          have HOW := hid (show Ow W1 wr 3 1 gI (.slice A' n c') (lk.map fun x : Nat => (x : Int)) from ⟨by have h := HS5.out.row; rw [HNN.out] at h; exact h, HS5.out.below⟩)
          clear hy
          go_wp2_with (at_builtin; refine wpList_appY elmI gI_one rfl (.tmp 50) (.tmp 52) rfl (.slice A' n c') _ rfl (HOW.out.alloc _) [(t : Int)] y HY rfl (Sl.fresh' _ #[_] 3 1 1 _ rfl rfl) rfl (by rw [HYL.out]; simp only [maxLen]; omega) (by rw [HYL.out]; omega) ?_; intro A4 c4 w6 hc4 hc5 HN4 HG4 _; have s6 : w6.cell? ⟨S, 0, none⟩ = some (.slice A' n c') := (HS5.out.mid HNN.out (bnew (bnil _) _) HG4.out).cell 0; have f6 := (HS5.out.mid HNN.out (bnew (bnil _) _) HG4.out).frozen 0)
          go_roundw
          case rel => exact ⟨k + 1, A4, c4, by omega, by go_num, hid (by have h := HS5.out.app HNN.out (bnew (bnil _) _) t HYE.out HG4.out HN4.out; rw [← HLK.out, List.append_assoc, show [t] = List.replicate 1 t from rfl, List.replicate_append_replicate] at h; exact h)⟩
          case measure => simp [intOf]; omega
end Go.Proofs.YtabmkjokeeakdaaDoor
