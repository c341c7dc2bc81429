/-
  CellEnds: its walk. Written by gen_celle.py.
-/
import Derived.Test.YtabmkjokeeakdaaDoorCellLaw
import Derived.Test.YtabmkjokeeakdaaDoorRan
import Derived.Test.YtabmkjokeeakdaaDoorSpent
import Derived.Test.YtabmkjokeeakdaaDoorSched
import Derived.Test.YtabmkjokeeakdaaDoorDsAt
import Derived.Deep.RegionHeld
namespace Go.Proofs.YtabmkjokeeakdaaDoor
open Go.RowKit
set_option linter.unusedVariables false

def c80 (k : Nat) : List Nat := List.replicate k 0
def c81 (k : Nat) : List Nat := List.replicate k 1
theorem spent_cnc (d : Dg) (l : List Nat) (h : ∀ e, d.e = some e → e < l.length) : spentOf d l = cnt l d.b (match d.e with | none => l.length | some e => e + 1) d.t := by
  unfold spentOf cnt
  cases he : d.e with
  | none => rfl
  | some e =>
    have := h e he
    show List.count d.t (((l.drop d.b).take (min l.length (e + 1) - d.b))) = _
    rw [Nat.min_eq_right (by omega)]
theorem anyk_next {ds : List Dg} {k : Nat} {d : Dg} {f : Dg → Bool} (h : ds[k]? = some d) : (ds.take (k + 1)).any f = ((ds.take k).any f || f d) := by
  rw [List.take_add_one, h, List.any_append]
  simp
set_option maxHeartbeats 8000000 in
set_option maxRecDepth 100000 in
theorem law_cellEnds (xi : Int) (S : Option Addr) (p q : Nat) (bs : List UInt8) (w : World) (ha : -9223372036854775808 ≤ xi) (ha1 : xi ≤ 9223372036854775807)
    (hp : p ≤ q) (hq : q ≤ maxLen) (_ : q * 1 ≤ 140737488351232) (hS : Sl w 1 S p (byts bs)) (hT : STab w) :
    Calls Tryd.prog 12 #[.int .i64 xi, .slice S p q] w fun e w' => e = .returned (.bool true) ∧ Below w.heap.size w w' := by
  have HS := hid hS; have HT := hid hT
  clear hS hT
  have hpl : p ≤ 9223372036854775807 := by unfold maxLen at hq; omega
  clear hq
  have m1 := pk_lt xi 6 (by decide)
  obtain ⟨n, hR⟩ : ∃ n : Nat, wrap64 (1 + (pk xi 6 : Int)) = (n : Int) ∧ n = 1 + pk xi 6 := ⟨1 + pk xi 6, by rw [wrap_mid (by omega) (by omega)]; omega, rfl⟩
  have h1 : 1 ≤ n := by omega
  have h6 : n ≤ 6 := by omega
  have HR := hid hR.1
  clear hR m1
  go_enter Tryd.func12, Tryd.ntmps12
  go_wp2_with fail
  refine (picked xi 6 w (by decide) ha ha1 (by decide)).mono ?_
  rintro e w' ⟨rfl, rfl⟩
  go_wp2_with fail
  try rw [HR.out]
  refine (cell_machine n 12 8 w h1 h6 (by decide) (by decide) HT.out).mono ?_
  rintro e w1 hp1
  obtain ⟨AW, cW, Cb, T, cv1, tv, av, rfl, hW, hM, b1⟩ := hp1
  have HM := hid hM; have B1 := hid b1; have HW := hid hW
  clear hM b1 hW
  obtain ⟨X, hX⟩ : ∃ X, w1.heap.size = X := ⟨_, rfl⟩
  go_upto_region 3 with fail
  have HX0 := hid (blkN w1 29 #[.slice AW (n + 1) cW, .slice (some ⟨Cb, 0, none⟩) 2 2, .slice (some ⟨T, 0, none⟩) 4 4] X hX)
  have BA := hid (bgo B1.out (bnew (bnil w1) (.cells #[.slice AW (n + 1) cW, .slice (some ⟨Cb, 0, none⟩) 2 2, .slice (some ⟨T, 0, none⟩) 4 4] 29)))
  have HMN := hid (HM.out.below (bnew (bnil w1) (.cells #[.slice AW (n + 1) cW, .slice (some ⟨Cb, 0, none⟩) 2 2, .slice (some ⟨T, 0, none⟩) 4 4] 29)))
  have HWA := hid (own_below HW.out (bnew (bnil w1) (.cells #[.slice AW (n + 1) cW, .slice (some ⟨Cb, 0, none⟩) 2 2, .slice (some ⟨T, 0, none⟩) 4 4] 29)))
  try rw [hX]
  generalize World.alloc w1 _ = wA at *
  clear hX HM HW
  go_wp2_with fail
  refine (schedule_n S p q 4 1000 bs wA hpl (by decide) (by decide) (by decide) (HS.out.below BA.out)).mono ?_
  rintro e w2 ⟨v, rfl, ho⟩
  have hl4 : (schedN bs 4 1000).length ≤ 1000 := by rw [schedN_len]; omega
  have HLT := hid (schedN_lt bs (N := 4) (by decide) 1000)
  generalize schedN bs 4 1000 = all at *
  obtain ⟨Al, cl, rfl, hcl, hcl2⟩ := ho.form
  have HO := hid ho; clear ho
  rw [show (nats all).length = all.length by simp] at *
  obtain ⟨N, hN⟩ : ∃ N, all.length = N := ⟨_, rfl⟩
  rw [hN] at HO hl4 hcl ⊢
  have HN := hid hN; clear hN hcl hcl2
  have HO := hid (show Ow wA w2 3 1 gI (.slice Al (N + 0) cl) (nats (all ++ c80 0)) by rw [show all ++ c80 0 = all by unfold c80; simp]; exact HO.out)
  go_wp2_with fail
  go_loopw [8, 9] (fun v i wr => ∃ (k : Nat) (A1 : Option Addr) (c1 : Nat), k ≤ 80 ∧ i = .int .i64 k ∧ v = .slice A1 (N + k) c1 ∧ Hid (Ow wA wr 3 1 gI (.slice A1 (N + k) c1) (nats (all ++ c80 k)))) (fun _ i _ => 80 - (intOf i).toNat)
  case atStart => exact ⟨0, _, _, Nat.zero_le _, rfl, rfl, HO⟩
  case round =>
    clear HO
    obtain ⟨k, A1, c1, hk, rfl, rfl, HO⟩ := hrel
    by_cases hlk : k < 80
    · have i2 : (k : Int) < 80 := by omega
      obtain ⟨y, hy⟩ : ∃ y, nats (all ++ c80 k) ++ [(0 : Int)] = y := ⟨_, rfl⟩
      have HYE := hid (show y = nats (all ++ c80 (k + 1)) by rw [← hy]; unfold nats c80; rw [List.replicate_succ']; simp)
      have HY := hid hy
      have HYN := hid (show y.length = N + k + 1 by rw [HYE.out]; unfold nats c80; rw [List.length_map, List.length_append, HN.out]; simp; omega)
      clear hy
      go_wp2_with (at_builtin; refine wpList_appY elmI gI_one rfl (.tmp 35) (.tmp 36) rfl (.slice A1 (N + k) c1) _ rfl (HO.out.alloc _) [(0 : Int)] y HY rfl (Sl.fresh wr #[_] 3 1 1 rfl) (by go_num) (by rw [HYN.out]; simp only [maxLen]; omega) (by rw [HYN.out]; omega) ?_; intro A4 c4 w4 hc4 hc5 HN1 _ _)
      go_roundw
      case rel => exact ⟨k + 1, A4, c4, by omega, by go_num, by rw [HYN.out]; rfl, hid (by have h1 := HN1.out; rw [HYN.out] at h1; rw [← HYE.out]; exact h1)⟩
      case measure => simp [intOf]; omega
    · obtain rfl : k = 80 := by omega
      have i2 : ¬ (((80 : Nat) : Int)) < 80 := by omega
      obtain ⟨L, hL⟩ : ∃ L, N + 80 = L := ⟨_, rfl⟩
      obtain ⟨al2, hal2⟩ : ∃ l, all ++ c80 80 = l := ⟨_, rfl⟩
      have HLT2 := hid (show ∀ x ∈ al2, x < 4 by
        intro x hx
        rw [← hal2] at hx
        rcases List.mem_append.1 hx with hx | hx
        · exact HLT.out x hx
        · rw [List.eq_of_mem_replicate hx]; decide)
      have HN2 := hid (show al2.length = L by rw [← hal2, List.length_append, HN.out, ← hL]; rfl)
      have hL1 : L ≤ 1080 := by omega
      rw [hL, hal2] at HO
      rw [hL]
      clear HLT HN hl4 hL hal2
      go_upto_region 9 with fail
      have HO := hid (show Ow wA wr 3 1 gI (.slice A1 (L + 0) c1) (nats (al2 ++ c81 0)) by rw [show al2 ++ c81 0 = al2 by unfold c81; simp]; exact HO.out)
      go_wp2_with fail
      go_loopw [8, 11] (fun v i wr => ∃ (k : Nat) (A1 : Option Addr) (c1 : Nat), k ≤ 80 ∧ i = .int .i64 k ∧ v = .slice A1 (L + k) c1 ∧ Hid (Ow wA wr 3 1 gI (.slice A1 (L + k) c1) (nats (al2 ++ c81 k)))) (fun _ i _ => 80 - (intOf i).toNat)
      case atStart => exact ⟨0, _, _, Nat.zero_le _, rfl, rfl, HO⟩
      case round =>
        clear HO
        obtain ⟨k, A1, c1, hk, rfl, rfl, HO⟩ := hrel
        by_cases hlk : k < 80
        · have i2 : (k : Int) < 80 := by omega
          obtain ⟨y, hy⟩ : ∃ y, nats (al2 ++ c81 k) ++ [(1 : Int)] = y := ⟨_, rfl⟩
          have HYE := hid (show y = nats (al2 ++ c81 (k + 1)) by rw [← hy]; unfold nats c81; rw [List.replicate_succ']; simp)
          have HY := hid hy
          have HYN := hid (show y.length = L + k + 1 by rw [HYE.out]; unfold nats c81; rw [List.length_map, List.length_append, HN2.out]; simp; omega)
          clear hy
          go_wp2_with (at_builtin; refine wpList_appY elmI gI_one rfl (.tmp 44) (.tmp 45) rfl (.slice A1 (L + k) c1) _ rfl (HO.out.alloc _) [(1 : Int)] y HY rfl (Sl.fresh wr #[_] 3 1 1 rfl) (by go_num) (by rw [HYN.out]; simp only [maxLen]; omega) (by rw [HYN.out]; omega) ?_; intro A4 c4 w4 hc4 hc5 HN1 _ _)
          go_roundw
          case rel => exact ⟨k + 1, A4, c4, by omega, by go_num, by rw [HYN.out]; rfl, hid (by have h1 := HN1.out; rw [HYN.out] at h1; rw [← HYE.out]; exact h1)⟩
          case measure => simp [intOf]; omega
        · obtain rfl : k = 80 := by omega
          have i2 : ¬ (((80 : Nat) : Int)) < 80 := by omega
          obtain ⟨sl, hsl⟩ : ∃ l, al2 ++ c81 80 = l := ⟨_, rfl⟩
          obtain ⟨NS, hNS⟩ : ∃ NS, L + 80 = NS := ⟨_, rfl⟩
          have HOK := hid (show CellOk L sl (doings (play (cmach n 12 8) sl).evs) ∧ NoErr (play (cmach n 12 8) sl).evs by
            have h := cell_ends h1 h6 al2
            rw [HN2.out] at h
            rw [← hsl]
            exact h)
          have HLS := hid (show ∀ x ∈ sl, x < 4 by
            intro x hx
            rw [← hsl] at hx
            rcases List.mem_append.1 hx with hx | hx
            · exact HLT2.out x hx
            · rw [List.eq_of_mem_replicate hx]; decide)
          have HSN := hid (show sl.length = NS by rw [← hsl, List.length_append, HN2.out, ← hNS]; rfl)
          have hNS1 : NS ≤ 1160 := by omega
          rw [hNS, hsl] at HO
          rw [hNS]
          clear HLT2 HN2 hsl
          have HMR := hid (cmach_at (HMN.out.below HO.out.below) h1 h6 (by decide) (by decide))
          have HWR := hid (own_below HWA.out HO.out.below)
          have HXR := hid (HX0.out.below' HO.out.below)
          have B2 := hid (bgo BA.out HO.out.below)
          have HTR := hid (HT.out.below B2.out)
          have hcap : NS ≤ c1 := by obtain ⟨_, _, e, h1, _⟩ := HO.out.form; injection e with e1 e2 e3; rw [List.length_map, HSN.out] at h1; omega
          have HSL := hid (show Sl wr 1 A1 NS (ints (sl.map fun x : Nat => (x : Int))) from by have h := HO.out.own; rw [show (nats sl).length = NS by unfold nats; rw [List.length_map, HSN.out]] at h; exact Sl.own h)
          have HWL := hid (show Sl wr 1 AW (n + 1) (ints (cmach n 12 8).words) from Sl.own HWR.out)
          have y0 : wr.cell? ⟨X, 0, none⟩ = some (.slice AW (n + 1) cW) := HXR.out.cell 0
          have y1 : wr.cell? ⟨X, 1, none⟩ = some (.slice (some ⟨Cb, 0, none⟩) 2 2) := HXR.out.cell 1
          have y2 : wr.cell? ⟨X, 2, none⟩ = some (.slice (some ⟨T, 0, none⟩) 4 4) := HXR.out.cell 2
          clear HO hNS
          go_wp2_with fail
          refine (ran_of AW (some ⟨Cb, 0, none⟩) (some ⟨T, 0, none⟩) A1 (n + 1) cW 2 2 4 4 NS c1 (cmach n 12 8) sl wr (by omega) (by decide) (by decide) (by omega) hcap HTR.out HMR.out HWL.out HSL.out HLS.out HOK.out.2 (play_fin _ sl)).mono ?_
          rintro e w3 ⟨v3, rs, rfl, hrow, hrs, htold, b3⟩
          obtain ⟨A3, c3, rfl, hc3, hc3'⟩ := own_form hrow
          obtain ⟨LD, hLD⟩ : ∃ L, rs.length = L := ⟨_, rfl⟩
          rw [hLD] at hrow hc3 ⊢
          have HD := hid (DsAt.mk hLD hrow htold)
          have HRS := hid hrs
          have B3 := hid (bgo B2.out b3)
          have HSL3 := hid (HSL.out.below b3)
          have HTM := hid (play_di (cmach n 12 8) sl).time
          have HC := hid HOK.out.1
          have HDL := hid (show (doings (play (cmach n 12 8) sl).evs).length = LD by rw [← hrs, List.length_map, hLD])
          generalize doings (play (cmach n 12 8) sl).evs = ds at *
          rw [HSN.out] at HTM
          have hLM : LD ≤ maxLen := by omega
          unfold maxLen at hLM
          clear hrow htold hrs hLD b3 y0 y1 y2 hcap hc3 hc3' HSL HWL HTR HXR HWR HMR HOK HMN HX0 BA HWA HLS
          go_wp2_with fail
          go_loopw [14] (fun v wx => ∃ k : Nat, k ≤ LD ∧ v = .int .i64 k ∧ Hid (Below w3.heap.size w3 wx)) (fun v _ => LD - (intOf v).toNat)
          case atStart => exact ⟨0, Nat.zero_le _, rfl, hid (bnil _)⟩
          case round =>
            obtain ⟨k, hk, rfl, BR⟩ := hrel
            by_cases hlt : k < LD
            · have j1 : (k : Int) < (LD : Int) := by omega
              obtain ⟨b9, d, At, ct, rfl, hd, lt9, u0, u1, u2, u3, u4, ut⟩ := (HD.out.below BR.out).at_ hlt
              rw [HRS.out] at hd
              have htm := HTM.out k d hd
              have HTE := hid htm.2
              have htb : d.b ≤ NS := Nat.le_of_lt htm.1
              by_cases h0 : d.t = 0
              · have hsp : spentOf d sl ≤ 80 := Nat.le_trans (Nat.le_of_eq (spent_cnc d sl (fun e he => by rw [HSN.out]; exact (htm.2 e he).2))) (HC.out.put k d hd h0)
                have HSP := hid hsp
                have q1 : ((d.t : Int) == 0) = true := by rw [h0]; rfl
                clear hd ut htm lt9 h0 hsp
                go_wp2_with fail
                refine (spent_of d ⟨At, d.told.length, ct⟩ A1 NS c1 sl wr (by omega) htb HTE.out (HSL3.out.below BR.out)).mono ?_
                rintro e w5 ⟨rfl, b5⟩
                obtain ⟨sp, hsp'⟩ : ∃ sp, spentOf d sl = sp := ⟨_, rfl⟩
                rw [hsp'] at HSP ⊢
                have hsp := HSP.out
                have g80 : ¬ ((80 : Int) < (sp : Int)) := by omega
                have BR5 := hid (bgo BR.out b5)
                clear hsp' HSP hsp b5 BR htb HTE
                go_wp2_with fail
                go_roundw
                case rel => exact ⟨k + 1, by omega, by go_num, BR5⟩
                case measure => simp [intOf]; omega
              · have q1 : ((d.t : Int) == 0) = false := beqF (by omega)
                clear hd ut htm lt9 h0 htb HTE
                go_wp2_with fail
                go_roundw
                case rel => exact ⟨k + 1, by omega, by go_num, BR⟩
                case measure => simp [intOf]; omega
            · obtain rfl : LD = k := by omega
              have j1 : ¬ (LD : Int) < (LD : Int) := by omega
              have HD4 := hid (HD.out.below BR.out)
              have B4 := hid (bgo B3.out BR.out)
              clear HD B3 BR HSL3 HTM HSN
              obtain ⟨w4, hw4⟩ : ∃ w4, w4 = wr := ⟨_, rfl⟩
              rw [← hw4] at HD4 B4 ⊢
              clear hw4
              go_wp2_with fail
              go_loopw [15, 16] (fun u v wx => ∃ (b : Bool) (k : Nat), k ≤ LD ∧ u = .bool b ∧ v = .int .i64 k ∧ Hid (b = (ds.take k).any cU) ∧ wx = w4) (fun _ v _ => LD - (intOf v).toNat)
              case atStart => exact ⟨false, 0, Nat.zero_le _, rfl, rfl, hid rfl, rfl⟩
              case round =>
                obtain ⟨b, k, hk, rfl, rfl, HB, rfl⟩ := hrel
                by_cases hlt : k < LD
                · have j1 : (k : Int) < (LD : Int) := by omega
                  obtain ⟨b9, d, At, ct, rfl, hd, lt9, -, u1, u2, -, -, ut⟩ := HD4.out.at_ hlt
                  rw [HRS.out] at hd
                  have HN1 := hid (anyk_next (f := cU) hd)
                  cases b with
                  | true =>
                    have HB1 := hid (show true = (ds.take (k + 1)).any cU by rw [HN1.out, ← HB.out]; rfl)
                    clear hd ut HN1 HB u1 u2 lt9
                    go_wp2_with fail
                    go_roundw
                    case rel => exact ⟨true, k + 1, by omega, rfl, by go_num, HB1, trivial⟩
                    case measure => simp [intOf]; omega
                  | false =>
                    by_cases h0 : d.t = 0
                    · have q1 : ((d.t : Int) == 0) = true := by rw [h0]; rfl
                      cases he : d.e with
                      | none =>
                        rw [he] at u1
                        simp only [eI] at u1
                        have HB1 := hid (show true = (ds.take (k + 1)).any cU by rw [HN1.out, ← HB.out]; unfold cU; rw [h0, he]; rfl)
                        clear hd ut HN1 HB lt9 h0 he
                        go_wp2_with fail
                        go_roundw
                        case rel => exact ⟨true, k + 1, by omega, rfl, by go_num, HB1, trivial⟩
                        case measure => simp [intOf]; omega
                      | some e =>
                        rw [he] at u1
                        simp only [eI] at u1
                        have q2 : ((e : Int) == -1) = false := beqF (by omega)
                        have HB1 := hid (show false = (ds.take (k + 1)).any cU by rw [HN1.out, ← HB.out]; unfold cU; rw [h0, he]; rfl)
                        clear hd ut HN1 HB lt9 h0 he
                        go_wp2_with fail
                        go_roundw
                        case rel => exact ⟨false, k + 1, by omega, rfl, by go_num, HB1, trivial⟩
                        case measure => simp [intOf]; omega
                    · have q1 : ((d.t : Int) == 0) = false := beqF (by omega)
                      have HB1 := hid (show false = (ds.take (k + 1)).any cU by rw [HN1.out, ← HB.out]; unfold cU; rw [show (d.t == 0) = false from by simp [h0]]; rfl)
                      clear hd ut HN1 HB lt9 h0 u1
                      go_wp2_with fail
                      go_roundw
                      case rel => exact ⟨false, k + 1, by omega, rfl, by go_num, HB1, trivial⟩
                      case measure => simp [intOf]; omega
                · obtain rfl : LD = k := by omega
                  have j1 : ¬ (LD : Int) < (LD : Int) := by omega
                  cases b with
                  | true =>
                    go_wp2_with fail
                    go_ret
                    exact ⟨rfl, B4.out⟩
                  | false =>
                    have HU := hid (show ds.any cU = false by have h := HB.out; rw [List.take_of_length_le (by rw [HDL.out]; exact Nat.le_refl _)] at h; exact h.symm)
                    clear HB
                    go_wp2_with fail
                    go_loopw [17, 18] (fun u v wx => ∃ (g k : Nat), k ≤ LD ∧ g ≤ k ∧ u = .int .i64 g ∧ v = .int .i64 k ∧ Hid (decide (0 < g) = (ds.take k).any (cG L)) ∧ wx = wr) (fun _ v _ => LD - (intOf v).toNat)
                    case atStart => exact ⟨0, 0, Nat.zero_le _, Nat.le_refl _, rfl, rfl, hid rfl, rfl⟩
                    case round =>
                      obtain ⟨g, k, hk, hgk, rfl, rfl, HG, rfl⟩ := hrel
                      by_cases hlt : k < LD
                      · have j1 : (k : Int) < (LD : Int) := by omega
                        obtain ⟨b9, d, At, ct, rfl, hd, lt9, u0, u1, u2, -, -, ut⟩ := HD4.out.at_ hlt
                        rw [HRS.out] at hd
                        have HN1 := hid (anyk_next (f := cG L) hd)
                        have HGE := hid (HC.out.get HU.out k d hd)
                        by_cases h0 : d.t = 1
                        · have q1 : ((d.t : Int) == 1) = true := by rw [h0]; rfl
                          cases he : d.e with
                          | none =>
                            have q3 : ¬ (d.b : Int) ≤ (L : Int) := by have := HGE.out h0 he; omega
                            have q2 : ¬ (L : Int) ≤ -1 := by omega
                            rw [he] at u1
                            simp only [eI] at u1
                            have HG1 := hid (show decide (0 < g) = (ds.take (k + 1)).any (cG L) by rw [HN1.out, ← HG.out]; unfold cG; rw [he]; simp)
                            clear hd ut HN1 HG lt9 h0 he HGE
                            go_wp2_with fail
                            go_roundw
                            case rel => exact ⟨g, k + 1, by omega, by omega, rfl, by go_num, HG1, trivial⟩
                            case measure => simp [intOf]; omega
                          | some e =>
                            rw [he] at u1
                            simp only [eI] at u1
                            have q4 : ((e : Int) == -1) = false := beqF (by omega)
                            by_cases hle : L ≤ e
                            · have q2 : (L : Int) ≤ (e : Int) := by omega
                              have HG1 := hid (show decide (0 < g + 1) = (ds.take (k + 1)).any (cG L) by rw [HN1.out]; unfold cG; rw [h0, he]; simp [hle])
                              clear hd ut HN1 HG lt9 h0 he HGE
                              go_wp2_with fail
                              go_roundw
                              case rel => exact ⟨g + 1, k + 1, by omega, by omega, by go_num, by go_num, HG1, trivial⟩
                              case measure => simp [intOf]; omega
                            · have q2 : ¬ (L : Int) ≤ (e : Int) := by omega
                              have HG1 := hid (show decide (0 < g) = (ds.take (k + 1)).any (cG L) by rw [HN1.out, ← HG.out]; unfold cG; rw [he]; simp [hle])
                              clear hd ut HN1 HG lt9 h0 he HGE
                              go_wp2_with fail
                              go_roundw
                              case rel => exact ⟨g, k + 1, by omega, by omega, rfl, by go_num, HG1, trivial⟩
                              case measure => simp [intOf]; omega
                        · have q1 : ((d.t : Int) == 1) = false := beqF (by omega)
                          have HG1 := hid (show decide (0 < g) = (ds.take (k + 1)).any (cG L) by rw [HN1.out, ← HG.out]; unfold cG; rw [show (d.t == 1) = false from by simp [h0]]; simp)
                          clear hd ut HN1 HG lt9 h0 u1 u0 HGE
                          go_wp2_with fail
                          go_roundw
                          case rel => exact ⟨g, k + 1, by omega, by omega, rfl, by go_num, HG1, trivial⟩
                          case measure => simp [intOf]; omega
                      · obtain rfl : LD = k := by omega
                        have j1 : ¬ (LD : Int) < (LD : Int) := by omega
                        have HGA := hid (show decide (0 < g) = ds.any (cG L) by have h := HG.out; rw [List.take_of_length_le (by rw [HDL.out]; exact Nat.le_refl _)] at h; exact h)
                        clear HG
                        go_wp2_with fail
                        go_loopw [19, 20] (fun u v wx => ∃ (b : Bool) (k : Nat), k ≤ LD ∧ u = .bool b ∧ v = .int .i64 k ∧ Hid (b = !(ds.take k).any (cL L)) ∧ wx = wr) (fun _ v _ => LD - (intOf v).toNat)
                        case atStart => exact ⟨true, 0, Nat.zero_le _, rfl, rfl, hid rfl, rfl⟩
                        case round =>
                          obtain ⟨b, k, hk, rfl, rfl, HB, rfl⟩ := hrel
                          by_cases hlt : k < LD
                          · have j1 : (k : Int) < (LD : Int) := by omega
                            obtain ⟨b9, d, At, ct, rfl, hd, lt9, -, u1, u2, u3, -, ut⟩ := HD4.out.at_ hlt
                            rw [HRS.out] at hd
                            have HN1 := hid (anyk_next (f := cL L) hd)
                            by_cases h0 : d.t = 1
                            · have q1 : ((d.t : Int) == 1) = true := by rw [h0]; rfl
                              by_cases h7 : d.c = 7
                              · have q7 : ((d.c : Int) == 7) = true := by rw [h7]; rfl
                                cases he : d.e with
                                | none =>
                                  rw [he] at u1
                                  simp only [eI] at u1
                                  have HB1 := hid (show b = !(ds.take (k + 1)).any (cL L) by rw [HN1.out, HB.out]; unfold cL; rw [he]; simp)
                                  clear hd ut HN1 HB lt9 h0 he h7
                                  go_wp2_with fail
                                  go_roundw
                                  case rel => exact ⟨b, k + 1, by omega, rfl, by go_num, HB1, trivial⟩
                                  case measure => simp [intOf]; omega
                                | some e =>
                                  rw [he] at u1
                                  simp only [eI] at u1
                                  have q2 : ((e : Int) != -1) = true := bneT (by omega)
                                  by_cases hle : e < L
                                  · have q3 : (e : Int) < (L : Int) := by omega
                                    have HB1 := hid (show false = !(ds.take (k + 1)).any (cL L) by rw [HN1.out]; unfold cL; rw [h0, h7, he]; simp [hle])
                                    clear hd ut HN1 HB lt9 h0 he h7
                                    go_wp2_with fail
                                    go_roundw
                                    case rel => exact ⟨false, k + 1, by omega, rfl, by go_num, HB1, trivial⟩
                                    case measure => simp [intOf]; omega
                                  · have q3 : ¬ (e : Int) < (L : Int) := by omega
                                    have HB1 := hid (show b = !(ds.take (k + 1)).any (cL L) by rw [HN1.out, HB.out]; unfold cL; rw [he]; simp [hle])
                                    clear hd ut HN1 HB lt9 h0 he h7
                                    go_wp2_with fail
                                    go_roundw
                                    case rel => exact ⟨b, k + 1, by omega, rfl, by go_num, HB1, trivial⟩
                                    case measure => simp [intOf]; omega
                              · have q7 : ((d.c : Int) == 7) = false := beqF (by omega)
                                have HB1 := hid (show b = !(ds.take (k + 1)).any (cL L) by rw [HN1.out, HB.out]; unfold cL; rw [show (d.c == 7) = false from by simp [h7]]; simp)
                                clear hd ut HN1 HB lt9 h0 u1 h7
                                go_wp2_with fail
                                go_roundw
                                case rel => exact ⟨b, k + 1, by omega, rfl, by go_num, HB1, trivial⟩
                                case measure => simp [intOf]; omega
                            · have q1 : ((d.t : Int) == 1) = false := beqF (by omega)
                              have HB1 := hid (show b = !(ds.take (k + 1)).any (cL L) by rw [HN1.out, HB.out]; unfold cL; rw [show (d.t == 1) = false from by simp [h0]]; simp)
                              clear hd ut HN1 HB lt9 h0 u1 u3
                              go_wp2_with fail
                              go_roundw
                              case rel => exact ⟨b, k + 1, by omega, rfl, by go_num, HB1, trivial⟩
                              case measure => simp [intOf]; omega
                          · obtain rfl : LD = k := by omega
                            have j1 : ¬ (LD : Int) < (LD : Int) := by omega
                            have hend : 0 < g ∨ b = false := by
                              have h := HB.out
                              rw [List.take_of_length_le (by rw [HDL.out]; exact Nat.le_refl _)] at h
                              rcases HC.out.some_ HU.out with h3 | h3
                              · left; have h4 := HGA.out; rw [h3] at h4; exact of_decide_eq_true h4
                              · right; rw [h, h3]; rfl
                            clear HB HGA
                            rcases hend with hg | rfl
                            · have q1 : (0 : Int) < (g : Int) := by omega
                              go_wp2_with fail
                              go_ret
                              exact ⟨rfl, B4.out⟩
                            · by_cases hg : 0 < g
                              · have q1 : (0 : Int) < (g : Int) := by omega
                                go_wp2_with fail
                                go_ret
                                exact ⟨rfl, B4.out⟩
                              · have q1 : ¬ (0 : Int) < (g : Int) := by omega
                                go_wp2_with fail
                                go_ret
                                exact ⟨rfl, B4.out⟩
end Go.Proofs.YtabmkjokeeakdaaDoor
