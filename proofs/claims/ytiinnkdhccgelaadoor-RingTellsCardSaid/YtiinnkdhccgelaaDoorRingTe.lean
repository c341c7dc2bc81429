/-
  The ring where all Puts are ahead of all Takes: what the law reads of the run. Plain. RingTells: its walk. (Merged by merge.py.)
-/
import Derived.Test.YtiinnkdhccgelaaDoorRTell
import Derived.Test.YtiinnkdhccgelaaDoorRingW2
namespace Go.Proofs.YtiinnkdhccgelaaDoor
set_option linter.unusedVariables false

section
open Go.RowKit
/-- what the law reads of the run -/
structure RT (N k : Nat) (ds : List Dg) : Prop where
  len : ds.length ≤ 40
  call : ∀ (i : Nat) (d : Dg), ds[i]? = some d → d.t < 2
  told : ∀ (i : Nat) (d : Dg) (e : Nat), ds[i]? = some d → d.e = some e → ∃ v, d.told = [v] ∧ 0 ≤ (rtAt ds i).1 ∧ (rtAt ds i).1 ≤ 20 ∧ 0 ≤ (rtAt ds i).2 ∧ (rtAt ds i).2 ≤ 20 ∧
    (d.t = 0 → ((v = 1 ↔ (rtAt ds i).1 < (N : Int)) ∧ (v = 0 ∨ v = 1))) ∧ (d.t ≠ 0 → ((rtAt ds i).2 < (rtAt ds i).1 → v = (rtAt ds i).2 + 1) ∧ ((rtAt ds i).1 ≤ (rtAt ds i).2 → v = -1 ∨ v = (rtAt ds i).2 + 1) ∧ -1 ≤ v ∧ v ≤ 20)
  put : ((min N k : Nat) : Int) ≤ (rtAt ds ds.length).1
  take : (rtAt ds ds.length).1 ≤ (rtAt ds ds.length).2
theorem rtOk_of {N k : Nat} {ds : List Dg} (h : rtOk N k ds = true) (hl : ds.length ≤ 40) : RT N k ds := by
  unfold rtOk at h
  simp only [Bool.and_eq_true, decide_eq_true_eq] at h
  obtain ⟨⟨h1, h2⟩, h3⟩ := h
  have key : ∀ (i : Nat) (d : Dg), ds[i]? = some d → rtOk1 N (rtAt ds i) d = true := fun i d hd => by
    have := List.all_eq_true.1 h1 i (List.mem_range.2 (List.getElem?_eq_some_iff.1 hd).1)
    rw [hd] at this; exact this
  refine ⟨hl, fun i d hd => ?_, fun i d e hd he => ?_, h2, h3⟩
  · have h := key i d hd
    unfold rtOk1 at h
    split at h
    · exact of_decide_eq_true h
    · simp only [Bool.and_eq_true, decide_eq_true_eq] at h
      exact h.1.1.1.1.1
    · cases h
  · have h := key i d hd
    unfold rtOk1 at h
    rw [he] at h
    split at h
    · rename_i h0; cases h0
    · rename_i v _ hv
      simp only [Bool.and_eq_true, decide_eq_true_eq] at h
      obtain ⟨⟨⟨⟨⟨a1, a2⟩, a3⟩, a4⟩, a5⟩, a6⟩ := h
      refine ⟨v, hv, a2, a3, a4, a5, fun ht => ?_, fun ht => ?_⟩
      · rw [if_pos ht] at a6
        simp only [Bool.and_eq_true, Bool.or_eq_true, decide_eq_true_eq, beq_iff_eq, decide_eq_decide] at a6
        exact a6
      · rw [if_neg ht] at a6
        simp only [Bool.and_eq_true, Bool.or_eq_true, decide_eq_true_eq] at a6
        obtain ⟨⟨⟨b1, b2⟩, b3⟩, b4⟩ := a6
        refine ⟨fun hlt => ?_, fun hle => ?_, b3, b4⟩
        · rcases b1 with b1 | b1
          · omega
          · exact b1
        · rcases b2 with (b2 | b2) | b2
          · omega
          · exact .inl b2
          · exact .inr b2
    · cases h
theorem ring_tells {N k : Nat} (h1 : 1 ≤ N) (h8 : N ≤ 8) (hk : 1 ≤ k) (hk2 : k ≤ 10) :
    RT N k (doings (play (rgM N) (List.replicate (80 * k) 0 ++ List.replicate 1600 1)).evs) ∧ NoErr (play (rgM N) (List.replicate (80 * k) 0 ++ List.replicate 1600 1)).evs := by
  obtain ⟨hc, hd⟩ := rt_all h1 h8 hk hk2
  unfold rtC at hc
  simp only [Bool.and_eq_true, decide_eq_true_eq] at hc
  obtain ⟨⟨⟨c1, c2⟩, c3⟩, c4⟩ := hc
  -- what is done by 80 k steps is done by 320
  have hp : prun (rgM N) 0 (List.replicate (80 * k) 0) (pinit (rgM N)) = rtP N k := by
    unfold rtP
    by_cases h : k ≤ 4
    · rw [Nat.min_eq_left h]
    · rw [Nat.min_eq_right (by omega)]
      have e2 : ∀ a b : Nat, List.replicate (a + b) 0 = List.replicate a 0 ++ List.replicate b 0 := fun a b => by rw [List.replicate_append_replicate]
      have e4 := e2 (80 * 4) (80 * k - 80 * 4)
      rw [show 80 * 4 + (80 * k - 80 * 4) = 80 * k by omega] at e4
      rw [e4, prun_append]
      have := thDone_at hd
      unfold rtP at this
      exact idle_run (rgM_th N).1 (by simp [rgPuts]) _ _ _ this
  have e : play (rgM N) (List.replicate (80 * k) 0 ++ List.replicate 1600 1) = rtS N k (rtP N k) := by
    unfold play
    have e2 : ∀ a b : Nat, List.replicate (a + b) 1 = List.replicate a 1 ++ List.replicate b 1 := fun a b => by rw [List.replicate_append_replicate]
    have e3 := e2 300 1300
    rw [show 300 + 1300 = 1600 from rfl] at e3
    rw [prun_append, hp, List.length_replicate, Nat.zero_add, e3, prun_append]
    exact idle_run (rgM_th N).2 (by simp [rgTakes]) _ _ _ (thDone_at c2)
  rw [e]
  refine ⟨rtOk_of c3 c4, fun x hx => ?_⟩
  have := List.all_eq_true.1 c1 x hx
  simpa using this
end

section
open Go.RowKit
theorem zo_next0 (k : Nat) : List.replicate k (0 : Int) ++ [0] = List.replicate (k + 1) 0 := by rw [show ([0] : List Int) = List.replicate 1 0 from rfl, List.replicate_append_replicate]
theorem zo_next1 (l : List Int) (k : Nat) : (l ++ List.replicate k (1 : Int)) ++ [1] = l ++ List.replicate (k + 1) 1 := by rw [List.append_assoc, show ([1] : List Int) = List.replicate 1 1 from rfl, List.replicate_append_replicate]
theorem zo_nats (a b : Nat) : List.replicate a (0 : Int) ++ List.replicate b 1 = nats (List.replicate a 0 ++ List.replicate b 1) := by unfold nats; rw [List.map_append, List.map_replicate, List.map_replicate]; rfl
theorem rtNext_none {a : Int × Int} {d : Dg} (he : d.e = none) : rtNext a d = a := by unfold rtNext; rw [he]
theorem rtNext_0 {a : Int × Int} {d : Dg} {e : Nat} {v : Int} (he : d.e = some e) (ht : d.told = [v]) (h : d.t = 0) : rtNext a d = (a.1 + v, a.2) := by unfold rtNext; rw [he, ht]; simp only; rw [if_pos h]
theorem rtNext_n {a : Int × Int} {d : Dg} {e : Nat} (he : d.e = some e) (ht : d.told = [-1]) (h : d.t ≠ 0) : rtNext a d = a := by unfold rtNext; rw [he, ht]; simp only; rw [if_neg h, if_pos trivial]
theorem rtNext_1 {a : Int × Int} {d : Dg} {e : Nat} {v : Int} (he : d.e = some e) (ht : d.told = [v]) (h : d.t ≠ 0) (hv : v ≠ -1) : rtNext a d = (a.1, a.2 + 1) := by unfold rtNext; rw [he, ht]; simp only; rw [if_neg h, if_neg hv]
set_option maxHeartbeats 8000000 in
set_option maxRecDepth 100000 in
theorem law_ringTells (xi xj : Int) (w : World) (ha : -9223372036854775808 ≤ xi) (ha1 : xi ≤ 9223372036854775807) (hb : -9223372036854775808 ≤ xj) (hb1 : xj ≤ 9223372036854775807) (hT : STab w) :
    Calls Tryd.prog 7 #[.int .i64 xi, .int .i64 xj] w fun e w' => e = .returned (.bool true) ∧ Below w.heap.size w w' := by
  have HT := hid hT
  clear hT
  have m1 := pk_lt xi 8 (by decide)
  obtain ⟨N, hR⟩ : ∃ N : Nat, wrap64 (1 + (pk xi 8 : Int)) = (N : Int) ∧ N = 1 + pk xi 8 := ⟨1 + pk xi 8, by rw [wrap_mid (by omega) (by omega)]; omega, rfl⟩
  have h1 : 1 ≤ N := by omega
  have h8 : N ≤ 8 := by omega
  have HR := hid hR.1
  have m2 := pk_lt xj 10 (by decide)
  obtain ⟨K, hR2⟩ : ∃ K : Nat, wrap64 (1 + (pk xj 10 : Int)) = (K : Int) ∧ K = 1 + pk xj 10 := ⟨1 + pk xj 10, by rw [wrap_mid (by omega) (by omega)]; omega, rfl⟩
  have k1 : 1 ≤ K := by omega
  have k10 : K ≤ 10 := by omega
  have HR2 := hid hR2.1
  clear hR m1 hR2 m2
  go_enter Tryd.func7, Tryd.ntmps7
  go_wp2_with fail
  refine (picked xi 8 w (by decide) ha ha1 (by decide)).mono ?_
  rintro e w' ⟨rfl, rfl⟩
  go_wp2_with fail
  rw [HR.out]
  refine (ring_machine N w h1 h8 HT.out).mono ?_
  rintro e w1 hp1
  obtain ⟨AW, cW, Cb, T, cv1, tv, av, rfl, hW, hM, b1⟩ := hp1
  have HM := hid hM; have B1 := hid b1; have HW := hid hW
  clear hM b1 hW
  obtain ⟨X, hX⟩ : ∃ X, w1.heap.size = X := ⟨_, rfl⟩
  go_upto_region 3 with fail
  have HX0 := hid (blkN w1 34 #[.slice AW (2 + N) cW, .slice (some ⟨Cb, 0, none⟩) 2 2, .slice (some ⟨T, 0, none⟩) 2 2] X hX)
  have BA := hid (bgo B1.out (bnew (bnil w1) (.cells #[.slice AW (2 + N) cW, .slice (some ⟨Cb, 0, none⟩) 2 2, .slice (some ⟨T, 0, none⟩) 2 2] 34)))
  have HMN := hid (HM.out.below (bnew (bnil w1) (.cells #[.slice AW (2 + N) cW, .slice (some ⟨Cb, 0, none⟩) 2 2, .slice (some ⟨T, 0, none⟩) 2 2] 34)))
  have HMA := hid (rgM_at h8 HMN.out)
  have HWA := hid (own_below HW.out (bnew (bnil w1) (.cells #[.slice AW (2 + N) cW, .slice (some ⟨Cb, 0, none⟩) 2 2, .slice (some ⟨T, 0, none⟩) 2 2] 34)))
  try rw [hX]
  generalize World.alloc w1 _ = wA at *
  clear hX HM HW HMN
  go_wp2_with fail
  refine (picked xj 10 wA (by decide) hb hb1 (by decide)).mono ?_
  rintro e w' ⟨rfl, rfl⟩
  go_wp2_with fail
  rw [HR2.out]
  clear HR2 HR
  go_loopw [9, 10] (fun v i wr => ∃ (k : Nat) (A1 : Option Addr) (c1 : Nat), k ≤ 80 * K ∧ i = .int .i64 k ∧ v = .slice A1 k c1 ∧ Hid (Ow wA wr 3 1 gI (.slice A1 k c1) (List.replicate k 0))) (fun _ i _ => 80 * K - (intOf i).toNat)
  case atStart => exact ⟨0, none, 0, Nat.zero_le _, rfl, rfl, hid (Ow.nil _ _ _ _)⟩
  case round =>
    obtain ⟨k, A1, c1, hk, rfl, rfl, HO⟩ := hrel
    by_cases hlt : k < 80 * K
    · have i1 : (k : Int) < 80 * (K : Int) := by omega
      obtain ⟨y, hy⟩ : ∃ y, List.replicate k (0 : Int) ++ [0] = y := ⟨_, rfl⟩
      have HY := hid hy
      have HYE := hid (show y = List.replicate (k + 1) 0 by rw [← hy]; exact zo_next0 k)
      have HYN := hid (show y.length = k + 1 by rw [HYE.out, List.length_replicate])
      clear hy
      go_wp2_with (at_builtin; refine wpList_appY elmI gI_one rfl (.tmp 35) (.tmp 36) rfl (.slice A1 k c1) _ rfl (HO.out.alloc _) [(0 : Int)] y HY rfl (Sl.fresh wr #[_] 3 1 1 rfl) (by go_num) (by rw [HYN.out]; simp only [maxLen]; omega) (by rw [HYN.out]; omega) ?_; intro A4 c4 w4 hc4 hc5 HN1 _ _)
      go_roundw
      case rel => exact ⟨k + 1, A4, c4, by omega, by go_num, by rw [HYN.out], hid (by have h1 := HN1.out; rw [HYN.out] at h1; rw [← HYE.out]; exact h1)⟩
      case measure => simp [intOf]; omega
    · obtain rfl : k = 80 * K := by omega
      have i1 : ¬ (((80 * K : Nat) : Int) < 80 * (K : Int)) := by omega
      obtain ⟨L, hL⟩ : ∃ L, 80 * K = L := ⟨_, rfl⟩
      have HL := hid hL
      have hL2 : L ≤ 800 := by omega
      have i2 : ¬ ((L : Int) < 80 * (K : Int)) := by omega
      rw [hL] at HO i1 ⊢
      clear hL hk hlt i1
      go_wp2_with fail
      go_loopw [9, 11] (fun v i wz => ∃ (k : Nat) (A2 : Option Addr) (c2 : Nat), k ≤ 1600 ∧ i = .int .i64 k ∧ v = .slice A2 (L + k) c2 ∧ Hid (Ow wA wz 3 1 gI (.slice A2 (L + k) c2) (List.replicate L 0 ++ List.replicate k 1))) (fun _ i _ => 1600 - (intOf i).toNat)
      case atStart => exact ⟨0, A1, c1, Nat.zero_le _, rfl, rfl, hid (by rw [List.replicate_zero, List.append_nil]; exact HO.out)⟩
      case round =>
        clear HO
        obtain ⟨k, A2, c2, hk, rfl, rfl, HO⟩ := hrel
        by_cases hlt : k < 1600
        · have j1 : (k : Int) < 1600 := by omega
          obtain ⟨y, hy⟩ : ∃ y, (List.replicate L (0 : Int) ++ List.replicate k 1) ++ [1] = y := ⟨_, rfl⟩
          have HY := hid hy
          have HYE := hid (show y = List.replicate L 0 ++ List.replicate (k + 1) 1 by rw [← hy]; exact zo_next1 _ k)
          have HYN := hid (show y.length = L + (k + 1) by rw [HYE.out, List.length_append, List.length_replicate, List.length_replicate])
          clear hy
          go_wp2_with (at_builtin; refine wpList_appY elmI gI_one rfl (.tmp 42) (.tmp 43) rfl (.slice A2 (L + k) c2) _ rfl (HO.out.alloc _) [(1 : Int)] y HY rfl (Sl.fresh wr #[_] 3 1 1 rfl) (by go_num) (by rw [HYN.out]; simp only [maxLen]; omega) (by rw [HYN.out]; omega) ?_; intro A4 c4 w4 hc4 hc5 HN1 _ _)
          go_roundw
          case rel => exact ⟨k + 1, A4, c4, by omega, by go_num, by rw [HYN.out], hid (by have h1 := HN1.out; rw [HYN.out] at h1; rw [← HYE.out]; exact h1)⟩
          case measure => simp [intOf]; omega
        · obtain rfl : k = 1600 := by omega
          have j1 : ¬ (((1600 : Nat) : Int) < 1600) := by omega
          obtain ⟨NN, hNN⟩ : ∃ NN, L + 1600 = NN := ⟨_, rfl⟩
          have HNN := hid hNN
          have hnn : NN ≤ 2400 := by omega
          rw [hNN] at HO ⊢
          clear hNN hlt hk
          have hcl : NN ≤ c2 := by obtain ⟨A', c', e1, e2, _⟩ := HO.out.form; injection e1 with _ e3 e4; omega
          have BS := hid HO.out.below
          have z0 : wr.cell? ⟨X, 0, none⟩ = some (.slice AW (2 + N) cW) := (HX0.out.below' BS.out).cell 0
          have z1 : wr.cell? ⟨X, 1, none⟩ = some (.slice (some ⟨Cb, 0, none⟩) 2 2) := (HX0.out.below' BS.out).cell 1
          have z2 : wr.cell? ⟨X, 2, none⟩ = some (.slice (some ⟨T, 0, none⟩) 2 2) := (HX0.out.below' BS.out).cell 2
          have HRT := hid (ring_tells h1 h8 k1 k10)
          rw [HL.out] at HRT
          obtain ⟨all, hall⟩ : ∃ all, List.replicate L 0 ++ List.replicate 1600 1 = all := ⟨_, rfl⟩
          have HOI := hid (show Sl wr 1 A2 NN (ints (nats all)) from by rw [← hall, ← zo_nats]; exact HO.out.sl)
          have HAL := hid (show all.length = NN by rw [← hall, List.length_append, List.length_replicate, List.length_replicate]; exact HNN.out)
          have HLT := hid (show ∀ x ∈ all, x < 2 from fun x hx => by rw [← hall] at hx; rcases List.mem_append.1 hx with h | h <;> rw [(List.mem_replicate.1 h).2] <;> decide)
          rw [hall] at HRT
          clear hall HO
          go_wp2_with fail
          have HWS := hid (show Sl wr 1 AW (2 + N) (ints (List.replicate (N + 2) (0 : Int))) from Sl.own (own_below HWA.out BS.out)); have HMB := hid (HMA.out.below BS.out)
          refine (ran_of AW (some ⟨Cb, 0, none⟩) (some ⟨T, 0, none⟩) A2 (2 + N) cW 2 2 2 2 NN c2 (rgM N) all wr (by omega) (by decide) (by decide) (by omega) hcl (HT.out.below (bgo BA.out BS.out)) HMB.out HWS.out HOI.out HLT.out HRT.out.2 (play_fin _ all)).mono ?_
          rintro e w3 hp3
          obtain ⟨v3, rs, rfl, hrow, hrs, htold, b3⟩ := hp3
          obtain ⟨A3, c3, rfl, hc3, hc3'⟩ := own_form hrow
          obtain ⟨LD, hLD⟩ : ∃ LD, rs.length = LD := ⟨_, rfl⟩
          rw [hLD] at hrow hc3 ⊢
          have HD := hid (DsAt.mk hLD hrow htold)
          have B3 := hid (bgo (bgo BA.out BS.out) b3)
          have HQ := hid HRT.out.1
          rw [← hrs] at HQ
          obtain ⟨ds, hds⟩ : ∃ ds, rs.map (·.1) = ds := ⟨_, rfl⟩
          have HDS := hid hds
          have HDL := hid (show ds.length = LD by rw [← hds, List.length_map]; exact hLD)
          rw [hds] at HQ
          have hLD40 : LD ≤ 40 := by rw [← HDL.out]; exact HQ.out.len
          clear hrow htold hrs b3 hLD hds z0 z1 z2 HX0 HMA HWA BA HWS HMB BS HOI HLT HRT HAL HNN
          unfold maxLen at hc3'
          go_wp2_with fail
          go_loopw [14, 15, 16] (fun pv tkv i wz => ∃ (k : Nat) (P Q : Int), k ≤ LD ∧ i = .int .i64 k ∧ pv = .int .i64 P ∧ tkv = .int .i64 Q ∧ Hid (rtAt ds k = (P, Q)) ∧ Hid (Below w3.heap.size w3 wz)) (fun _ _ i _ => LD - (intOf i).toNat)
          case atStart => exact ⟨0, 0, 0, Nat.zero_le _, rfl, rfl, rfl, hid rfl, hid (bnil _)⟩
          case round =>
            obtain ⟨j, P, Q, hj, rfl, rfl, rfl, HPQ, BZ⟩ := hrel
            by_cases hlt2 : j < LD
            · have j2 : (j : Int) < (LD : Int) := by omega
              obtain ⟨b9, d, At, ct, rfl, hd, lt9, u0, u1, u2, u3, u4, ut⟩ := (HD.out.below BZ.out).at_ hlt2
              rw [HDS.out] at hd
              have HDk := hid hd
              have HUT := hid ut
              have HNX := hid (rtAt_next hd)
              rw [HPQ.out] at HNX
              have hdd : d.t = 0 ∨ d.t = 1 := by have := HQ.out.call j d hd; omega
              clear hd ut lt9 u0 u3
              cases he : d.e with
              | none =>
                rw [he] at u1
                simp only [eI] at u1
                have HN2 := hid (show rtAt ds (j + 1) = (P, Q) by rw [HNX.out, rtNext_none he])
                clear he hdd u2 u4
                go_wp2_with fail
                go_roundw
                case rel => exact ⟨j + 1, P, Q, by omega, by go_num, rfl, rfl, HN2, BZ⟩
                case measure => simp [intOf]; omega
              | some e =>
                rw [he] at u1
                simp only [eI] at u1
                obtain ⟨v, htd, p0, p1, q0, q1, hv0, hv1⟩ := HQ.out.told j d e HDk.out he
                rw [HPQ.out] at p0 p1 q0 q1 hv0 hv1
                simp only at p0 p1 q0 q1 hv0 hv1
                obtain ⟨bt, rfl, hbt, t0⟩ := told_one HUT.out htd
                rw [htd] at u4
                replace u4 : wr.cell? ⟨b9, j * 5 + 4, none⟩ = some (.slice (some ⟨bt, 0, none⟩) 1 ct) := u4
                have en2 : ((e : Int) == -1) = false := beqF (by omega)
                have en4 : ¬ ((e : Int) = -1) := by omega
                have HE := hid he; have HTD := hid htd
                clear he htd hbt
                rcases hdd with hdt | hdt
                · obtain ⟨hva, hvb⟩ := hv0 hdt
                  have HN2 := hid (show rtAt ds (j + 1) = (P + v, Q) by rw [HNX.out, rtNext_0 HE.out HTD.out hdt])
                  rw [hdt] at u2
                  replace u2 : wr.cell? ⟨b9, j * 5 + 2, none⟩ = some (.int .i64 0) := u2
                  clear hv0 hv1 hdt
                  rcases hvb with rfl | rfl
                  · have g1 : ¬ (P < (N : Int)) := fun h => by have := hva.2 h; omega
                    rw [Int.add_zero] at HN2
                    clear hva HNX HUT HE HTD
                    go_wp2_with fail
                    go_roundw
                    case rel => exact ⟨j + 1, P, Q, by omega, by go_num, by go_num, rfl, HN2, BZ⟩
                    case measure => simp [intOf]; omega
                  · have g1 : P < (N : Int) := hva.1 rfl
                    clear hva HNX HUT HE HTD
                    go_wp2_with fail
                    go_roundw
                    case rel => exact ⟨j + 1, P + 1, Q, by omega, by go_num, by go_num, rfl, HN2, BZ⟩
                    case measure => simp [intOf]; omega
                · have hne : d.t ≠ 0 := by omega
                  obtain ⟨hva, hvb, hvc, hvd⟩ := hv1 hne
                  rw [hdt] at u2
                  replace u2 : wr.cell? ⟨b9, j * 5 + 2, none⟩ = some (.int .i64 1) := u2
                  have en5 : ((Q + 1 : Int) != -1) = true := bneT (by omega)
                  have en6 : ¬ ((Q + 1 : Int) = -1) := by omega
                  by_cases hPQ : Q < P
                  · obtain rfl := hva hPQ
                    have g2 : ¬ (P ≤ Q) := by omega
                    have HN2 := hid (show rtAt ds (j + 1) = (P, Q + 1) by rw [HNX.out, rtNext_1 HE.out HTD.out hne (by omega)])
                    clear hv0 hv1 hdt hne hva hvb HNX HUT HE HTD
                    go_wp2_with fail
                    go_roundw
                    case rel => exact ⟨j + 1, P, Q + 1, by omega, by go_num, rfl, by go_num, HN2, BZ⟩
                    case measure => simp [intOf]; omega
                  · have g2 : P ≤ Q := by omega
                    have hvb := hvb g2
                    clear hva
                    rcases hvb with rfl | rfl
                    · have HN2 := hid (show rtAt ds (j + 1) = (P, Q) by rw [HNX.out, rtNext_n HE.out HTD.out hne])
                      clear hv0 hv1 hdt hne HNX HUT HE HTD
                      go_wp2_with fail
                      go_roundw
                      case rel => exact ⟨j + 1, P, Q, by omega, by go_num, rfl, rfl, HN2, BZ⟩
                      case measure => simp [intOf]; omega
                    · have HN2 := hid (show rtAt ds (j + 1) = (P, Q + 1) by rw [HNX.out, rtNext_1 HE.out HTD.out hne (by omega)])
                      clear hv0 hv1 hdt hne HNX HUT HE HTD
                      go_wp2_with fail
                      go_roundw
                      case rel => exact ⟨j + 1, P, Q + 1, by omega, by go_num, rfl, by go_num, HN2, BZ⟩
                      case measure => simp [intOf]; omega
            · obtain rfl : j = LD := by omega
              have j2 : ¬ (j : Int) < (j : Int) := by omega
              have hp := HQ.out.put
              have hq := HQ.out.take
              rw [HDL.out, HPQ.out] at hp hq
              simp only at hp hq
              have g3 : min (N : Int) (K : Int) ≤ P := by omega
              clear hp
              go_wp2_with fail
              all_goals
                go_ret
                exact ⟨rfl, bgo B3.out BZ.out⟩
end
end Go.Proofs.YtiinnkdhccgelaaDoor
