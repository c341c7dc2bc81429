/-
  SnapEnds: its walk. Written by gen_snape.py.
-/
import Derived.Test.YtabmkjokeeakdaaDoorSnapRun
import Derived.Test.YtabmkjokeeakdaaDoorRan
import Derived.Test.YtabmkjokeeakdaaDoorSpent
import Derived.Test.YtabmkjokeeakdaaDoorSched
import Derived.Test.YtabmkjokeeakdaaDoorDsAt
import Derived.Deep.RegionHeld
namespace Go.Proofs.YtabmkjokeeakdaaDoor
open Go.RowKit
set_option linter.unusedVariables false

def c82 (k : Nat) : List Nat := List.replicate k 2
theorem spent_cnn (d : Dg) (l : List Nat) (h : ∀ e, d.e = some e → e < l.length) : spentOf d l = cnt l d.b (match d.e with | none => l.length | some e => e + 1) d.t := by
  unfold spentOf cnt
  cases he : d.e with
  | none => rfl
  | some e =>
    have := h e he
    show List.count d.t (((l.drop d.b).take (min l.length (e + 1) - d.b))) = _
    rw [Nat.min_eq_right (by omega)]
set_option maxHeartbeats 8000000 in
set_option maxRecDepth 100000 in
theorem law_snapEnds (xi : Int) (D : Option Addr) (r s : Nat) (cs : List Int) (S : Option Addr) (p q : Nat) (bs : List UInt8) (w : World) (ha : -9223372036854775808 ≤ xi) (ha1 : xi ≤ 9223372036854775807)
    (hr : r ≤ s) (hs : s ≤ maxLen) (_ : s * 8 ≤ 140737488351232) (hD : Sl w 1 D r (ints cs)) (hcs : ∀ x ∈ cs, -9223372036854775808 ≤ x ∧ x ≤ 9223372036854775807)
    (hp : p ≤ q) (hq : q ≤ maxLen) (_ : q * 1 ≤ 140737488351232) (hS : Sl w 1 S p (byts bs)) (hT : STab w) :
    Calls Tryd.prog 8 #[.int .i64 xi, .slice D r s, .slice S p q] w fun e w' => e = .returned (.bool true) ∧ Below w.heap.size w w' := by
  have HS := hid hS; have HT := hid hT; have HDD := hid hD; have HCS := hid hcs
  clear hS hT hD hcs
  have hpl : p ≤ 9223372036854775807 := by unfold maxLen at hq; omega
  have hrl : r ≤ 9223372036854775807 := by unfold maxLen at hs; omega
  clear hq hs
  have m1 := pk_lt xi 4 (by decide)
  obtain ⟨n, hR⟩ : ∃ n : Nat, wrap64 (1 + (pk xi 4 : Int)) = (n : Int) ∧ n = 1 + pk xi 4 := ⟨1 + pk xi 4, by rw [wrap_mid (by omega) (by omega)]; omega, rfl⟩
  have h1 : 1 ≤ n := by omega
  have h6 : n ≤ 4 := by omega
  have HR := hid hR.1
  clear hR m1
  go_enter Tryd.func8, Tryd.ntmps8
  go_wp2_with fail
  refine (picked xi 4 w (by decide) ha ha1 (by decide)).mono ?_
  rintro e w' ⟨rfl, rfl⟩
  go_wp2_with fail
  try rw [HR.out]
  refine (snap_machine D r s n cs w h1 h6 hrl HDD.out HCS.out HT.out).mono ?_
  rintro e w1 hp1
  obtain ⟨AW, cW, Cb, T, cv1, tv, av, rfl, hW, hM, b1⟩ := hp1
  have HM := hid hM; have B1 := hid b1; have HW := hid hW
  clear hM b1 hW
  obtain ⟨X, hX⟩ : ∃ X, w1.heap.size = X := ⟨_, rfl⟩
  go_upto_region 3 with fail
  have HX0 := hid (blkN w1 29 #[.slice AW n cW, .slice (some ⟨Cb, 0, none⟩) 2 2, .slice (some ⟨T, 0, none⟩) 4 4] X hX)
  have BA := hid (bgo B1.out (bnew (bnil w1) (.cells #[.slice AW n cW, .slice (some ⟨Cb, 0, none⟩) 2 2, .slice (some ⟨T, 0, none⟩) 4 4] 29)))
  have HMN := hid (HM.out.below (bnew (bnil w1) (.cells #[.slice AW n cW, .slice (some ⟨Cb, 0, none⟩) 2 2, .slice (some ⟨T, 0, none⟩) 4 4] 29)))
  have HWA := hid (own_below HW.out (bnew (bnil w1) (.cells #[.slice AW n cW, .slice (some ⟨Cb, 0, none⟩) 2 2, .slice (some ⟨T, 0, none⟩) 4 4] 29)))
  try rw [hX]
  generalize World.alloc w1 _ = wA at *
  clear hX HM HW
  go_wp2_with fail
  refine (schedule_n S p q 4 800 bs wA hpl (by decide) (by decide) (by decide) (HS.out.below BA.out)).mono ?_
  rintro e w2 ⟨v, rfl, ho⟩
  have hl4 : (schedN bs 4 800).length ≤ 800 := by rw [schedN_len]; omega
  have HLT := hid (schedN_lt bs (N := 4) (by decide) 800)
  generalize schedN bs 4 800 = all at *
  obtain ⟨Al, cl, rfl, hcl, hcl2⟩ := ho.form
  have HO := hid ho; clear ho
  rw [show (nats all).length = all.length by simp] at *
  obtain ⟨N, hN⟩ : ∃ N, all.length = N := ⟨_, rfl⟩
  rw [hN] at HO hl4 hcl ⊢
  have HN := hid hN; clear hN hcl hcl2
  go_upto_region 5 with fail
  have HO := hid (show Ow wA w2 3 1 gI (.slice Al (N + 0) cl) (nats (all ++ c82 0)) by rw [show all ++ c82 0 = all by unfold c82; simp]; exact HO.out)
  go_wp2_with fail
  go_loopw [10, 12] (fun v i wr => ∃ (k : Nat) (A1 : Option Addr) (c1 : Nat), k ≤ 500 ∧ i = .int .i64 k ∧ v = .slice A1 (N + k) c1 ∧ Hid (Ow wA wr 3 1 gI (.slice A1 (N + k) c1) (nats (all ++ c82 k)))) (fun _ i _ => 500 - (intOf i).toNat)
  case atStart => exact ⟨0, _, _, Nat.zero_le _, rfl, rfl, HO⟩
  case round =>
    clear HO
    obtain ⟨k, A1, c1, hk, rfl, rfl, HO⟩ := hrel
    by_cases hlk : k < 500
    · have i2 : (k : Int) < 500 := by omega
      obtain ⟨y, hy⟩ : ∃ y, nats (all ++ c82 k) ++ [(2 : Int)] = y := ⟨_, rfl⟩
      have HYE := hid (show y = nats (all ++ c82 (k + 1)) by rw [← hy]; unfold nats c82; rw [List.replicate_succ']; simp)
      have HY := hid hy
      have HYN := hid (show y.length = N + k + 1 by rw [HYE.out]; unfold nats c82; rw [List.length_map, List.length_append, HN.out]; simp; omega)
      clear hy
      go_wp2_with (at_builtin; refine wpList_appY elmI gI_one rfl (.tmp 34) (.tmp 35) rfl (.slice A1 (N + k) c1) _ rfl (HO.out.alloc _) [(2 : Int)] y HY rfl (Sl.fresh wr #[_] 3 1 1 rfl) (by go_num) (by rw [HYN.out]; simp only [maxLen]; omega) (by rw [HYN.out]; omega) ?_; intro A4 c4 w4 hc4 hc5 HN1 _ _)
      go_roundw
      case rel => exact ⟨k + 1, A4, c4, by omega, by go_num, by rw [HYN.out]; rfl, hid (by have h1 := HN1.out; rw [HYN.out] at h1; rw [← HYE.out]; exact h1)⟩
      case measure => simp [intOf]; omega
    · obtain rfl : k = 500 := by omega
      have i2 : ¬ (((500 : Nat) : Int)) < 500 := by omega
      obtain ⟨sl, hsl⟩ : ∃ l, all ++ c82 500 = l := ⟨_, rfl⟩
      obtain ⟨NS, hNS⟩ : ∃ NS, N + 500 = NS := ⟨_, rfl⟩
      have HOK := hid (show SnapOk N sl (doings (play (nmach n cs) sl).evs) ∧ NoErr (play (nmach n cs) sl).evs by
        have h := snap_ends h1 h6 cs all
        rw [HN.out] at h
        rw [← hsl]
        exact h)
      have HLS := hid (show ∀ x ∈ sl, x < 4 by
        intro x hx
        rw [← hsl] at hx
        rcases List.mem_append.1 hx with hx | hx
        · exact HLT.out x hx
        · rw [List.eq_of_mem_replicate hx]; decide)
      have HSN := hid (show sl.length = NS by rw [← hsl, List.length_append, HN.out, ← hNS]; unfold c82; rw [List.length_replicate])
      have hNS1 : NS ≤ 1300 := by omega
      rw [hNS, hsl] at HO
      rw [hNS]
      clear HLT HN hsl
      have HMR := hid (nmach_at (HMN.out.below HO.out.below) h1 h6)
      have HWR := hid (own_below HWA.out HO.out.below)
      have HXR := hid (HX0.out.below' HO.out.below)
      have B2 := hid (bgo BA.out HO.out.below)
      have HTR := hid (HT.out.below B2.out)
      have hcap : NS ≤ c1 := by obtain ⟨_, _, e, h1, _⟩ := HO.out.form; injection e with e1 e2 e3; rw [List.length_map, HSN.out] at h1; omega
      have HSL := hid (show Sl wr 1 A1 NS (ints (sl.map fun x : Nat => (x : Int))) from by have h := HO.out.own; rw [show (nats sl).length = NS by unfold nats; rw [List.length_map, HSN.out]] at h; exact Sl.own h)
      have HWL := hid (show Sl wr 1 AW n (ints (nmach n cs).words) from Sl.own HWR.out)
      have y0 : wr.cell? ⟨X, 0, none⟩ = some (.slice AW n cW) := HXR.out.cell 0
      have y1 : wr.cell? ⟨X, 1, none⟩ = some (.slice (some ⟨Cb, 0, none⟩) 2 2) := HXR.out.cell 1
      have y2 : wr.cell? ⟨X, 2, none⟩ = some (.slice (some ⟨T, 0, none⟩) 4 4) := HXR.out.cell 2
      clear HO hNS
      go_wp2_with fail
      refine (ran_of AW (some ⟨Cb, 0, none⟩) (some ⟨T, 0, none⟩) A1 n cW 2 2 4 4 NS c1 (nmach n cs) sl wr (by omega) (by decide) (by decide) (by omega) hcap HTR.out HMR.out HWL.out HSL.out HLS.out HOK.out.2 (play_fin _ sl)).mono ?_
      rintro e w3 ⟨v3, rs, rfl, hrow, hrs, htold, b3⟩
      obtain ⟨A3, c3, rfl, hc3, hc3'⟩ := own_form hrow
      obtain ⟨LD, hLD⟩ : ∃ L, rs.length = L := ⟨_, rfl⟩
      rw [hLD] at hrow hc3 ⊢
      have HD := hid (DsAt.mk hLD hrow htold)
      have HRS := hid hrs
      have B3 := hid (bgo B2.out b3)
      have HSL3 := hid (HSL.out.below b3)
      have HTM := hid (play_di (nmach n cs) sl).time
      have HC := hid HOK.out.1
      generalize doings (play (nmach n cs) sl).evs = ds at *
      rw [HSN.out] at HTM
      have hLM : LD ≤ maxLen := by omega
      unfold maxLen at hLM
      clear hrow htold hrs hLD b3 y0 y1 y2 hcap hc3 hc3' HSL HWL HTR HXR HWR HMR HOK HMN HX0 BA HWA HLS
      go_wp2_with fail
      go_loopw [15] (fun v wx => ∃ k : Nat, k ≤ LD ∧ v = .int .i64 k ∧ Hid (Below w3.heap.size w3 wx)) (fun v _ => LD - (intOf v).toNat)
      case atStart => exact ⟨0, Nat.zero_le _, rfl, hid (bnil _)⟩
      case round =>
        obtain ⟨k, hk, rfl, BR⟩ := hrel
        by_cases hlt : k < LD
        · have j1 : (k : Int) < (LD : Int) := by omega
          obtain ⟨b9, d, At, ct, rfl, hd, lt9, u0, u1, u2, u3, u4, ut⟩ := (HD.out.below BR.out).at_ hlt
          rw [HRS.out] at hd
          have htm := HTM.out k d hd
          have HTE := hid htm.2
          have htb : d.b ≤ NS := Nat.le_of_lt htm.1
          have HTB := hid htb
          have HTB2 := hid htm
          obtain ⟨LT, hLT⟩ : ∃ L, d.told.length = L := ⟨_, rfl⟩
          rw [hLT] at u4
          obtain ⟨EY, hEY⟩ : ∃ E, eI d.e = E := ⟨_, rfl⟩
          rw [hEY] at u1
          have HEY := hid hEY
          have HDK := hid hd
          obtain ⟨bx, hbx⟩ : ∃ bx, wr.heap.size = bx := ⟨_, rfl⟩
          have HBX := hid hbx
          have XB0 := hid (blkN wr 41 #[.int .i64 (d.b : Int), .int .i64 EY, .int .i64 (d.t : Int), .int .i64 (d.c : Int), .slice At LT ct] bx hbx)
          have BX0 := hid (bnew (bnil wr) (.cells #[.int .i64 (d.b : Int), .int .i64 EY, .int .i64 (d.t : Int), .int .i64 (d.c : Int), .slice At LT ct] 41))
          clear hbx ut lt9 hd htm htb hEY
          have HLT := hid hLT
          clear hLT
          go_upto_region 16 with fail
          try rw [HBX.out]
          obtain ⟨wp, hwp⟩ : ∃ wp, wr.alloc (.cells #[.int .i64 (d.b : Int), .int .i64 EY, .int .i64 (d.t : Int), .int .i64 (d.c : Int), .slice At LT ct] 41) = wp := ⟨_, rfl⟩
          rw [hwp] at XB0 BX0 ⊢
          clear hwp HBX u0 u1 u2 u3 u4
          have BP := hid (bgo BR.out BX0.out)
          have x0 : wp.cell? ⟨bx, 0, none⟩ = some (.int .i64 (d.b : Int)) := XB0.out.cell 0
          have x1 : wp.cell? ⟨bx, 1, none⟩ = some (.int .i64 EY) := XB0.out.cell 1
          have x2 : wp.cell? ⟨bx, 2, none⟩ = some (.int .i64 (d.t : Int)) := XB0.out.cell 2
          have x3 : wp.cell? ⟨bx, 3, none⟩ = some (.int .i64 (d.c : Int)) := XB0.out.cell 3
          have x4 : wp.cell? ⟨bx, 4, none⟩ = some (.slice At LT ct) := XB0.out.cell 4
          clear BX0 BR
          by_cases h0 : d.t < 2
          · have q1 : (d.t : Int) < 2 := by omega
            have hsp : spentOf d sl ≤ 80 := Nat.le_trans (Nat.le_of_eq (spent_cnn d sl (fun e he => by rw [HSN.out]; exact (HTE.out e he).2))) (HC.out.put k d HDK.out h0)
            have HSP := hid hsp
            have q2 : ((d.t : Int) == 2) = false := beqF (by omega)
            clear h0 hsp
            have HSC := hid (spent_of d ⟨At, LT, ct⟩ A1 NS c1 sl wp (by omega) HTB.out HTE.out (HSL3.out.below BP.out))
            rw [HEY.out] at HSC
            go_wp2_with fail
            refine HSC.out.mono ?_
            rintro e w5 ⟨rfl, b5⟩
            obtain ⟨sp, hsp'⟩ : ∃ sp, spentOf d sl = sp := ⟨_, rfl⟩
            rw [hsp'] at HSP ⊢
            have hsp := HSP.out
            have g80 : ¬ ((80 : Int) < (sp : Int)) := by omega
            have BR5 := hid (bgo BP.out b5)
            replace x2 := cell_below b5 x2
            clear hsp' HSP hsp b5 BP x0 x1 x3 x4
            go_wp2_with fail
            go_roundw
            case rel => exact ⟨k + 1, by omega, by go_num, BR5⟩
            case measure => simp [intOf]; omega
          · have q1 : ¬ (d.t : Int) < 2 := by omega
            by_cases h2 : d.t = 2
            · have q2 : ((d.t : Int) == 2) = true := by rw [h2]; rfl
              by_cases hb : d.b < N + 250
              · have q3 : (d.b : Int) < (N : Int) + 250 := by omega
                obtain ⟨e, he, hem⟩ := HC.out.get k d HDK.out h2 hb
                have hE : EY = (e : Int) := by rw [← HEY.out, he]; rfl
                subst hE
                have q4 : ((e : Int) == -1) = false := beqF (by omega)
                by_cases hm : N < d.b
                · have q5 : ¬ (N : Int) + 250 + ((d.b : Int) - (N : Int)) ≤ (e : Int) := by omega
                  have q6 : (N : Int) < (d.b : Int) := by omega
                  clear h0 h2 hb he hem hm
                  go_wp2_with fail
                  go_roundw
                  case rel => exact ⟨k + 1, by omega, by go_num, BP⟩
                  case measure => simp [intOf]; omega
                · have q5 : ¬ (N : Int) + 250 ≤ (e : Int) := by omega
                  have q6 : ¬ (N : Int) < (d.b : Int) := by omega
                  clear h0 h2 hb he hem hm
                  go_wp2_with fail
                  go_roundw
                  case rel => exact ⟨k + 1, by omega, by go_num, BP⟩
                  case measure => simp [intOf]; omega
              · have q3 : ¬ (d.b : Int) < (N : Int) + 250 := by omega
                clear h0 h2 hb
                go_wp2_with fail
                go_roundw
                case rel => exact ⟨k + 1, by omega, by go_num, BP⟩
                case measure => simp [intOf]; omega
            · have q2 : ((d.t : Int) == 2) = false := beqF (by omega)
              clear h0 h2
              go_wp2_with fail
              go_roundw
              case rel => exact ⟨k + 1, by omega, by go_num, BP⟩
              case measure => simp [intOf]; omega
        · obtain rfl : LD = k := by omega
          have j1 : ¬ (LD : Int) < (LD : Int) := by omega
          go_wp2_with fail
          go_ret
          exact ⟨rfl, bgo B3.out BR.out⟩
end Go.Proofs.YtabmkjokeeakdaaDoor
