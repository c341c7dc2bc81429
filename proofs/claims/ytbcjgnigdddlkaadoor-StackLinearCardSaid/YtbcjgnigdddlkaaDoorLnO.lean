/-
  barographkeep.tell at a queue and at a stack: its walk. barographkeep.Linear at a queue and at a stack: its walk. Written by gen_linearo.py. (Merged by merge.py.)
-/
import Derived.Test.YtbcjgnigdddlkaaDoorRow
import Derived.Test.YtbcjgnigdddlkaaDoorQStep
import Derived.Deep.QuietTactic
import Derived.Deep.CutBlock
import Derived.Deep.DeepCutAuto
import Derived.Test.YtbcjgnigdddlkaaDoorQPl
import Derived.Test.YtbcjgnigdddlkaaDoorDsAt
namespace Go.Proofs.YtbcjgnigdddlkaaDoor
set_option linter.unusedVariables false

section
open Go.RowKit
def TellPost (w : World) (x : Int) (n : Nat) (l : List Int) (e : Ending) (w' : World) : Prop := ∃ (y : Value) (A' : Option Addr) (n' c' : Nat), e = .returned (.tuple #[.int .i64 x, y, .slice A' n' c']) ∧ n' ≤ c' ∧ c' ≤ maxLen ∧ n' ≤ n + 1 ∧ Sl w' 1 A' n' (l.flatMap gI) ∧ Below w.heap.size w w'
theorem dropLast_take (l : List Int) {n : Nat} (h : l.length = n) : l.dropLast = l.take (n - 1) := by rw [List.dropLast_eq_take, h]
set_option maxHeartbeats 2000000 in
theorem tell_obj (q : Bool) (l : List Int) (v : Int) (pb : Bool) (A : Option Addr) (n c : Nat) (w : World) (hn : n ≤ c) (hc : c ≤ maxLen) (hn20 : n ≤ 20) (hA : Sl w 1 A n (l.flatMap gI)) :
    Calls Tryd.prog 59 #[.int .i64 (if q then 3 else 4), .slice A n c, .bool pb, .int .i64 v] w fun e w' => TellPost w (otell q l pb v).1 n (otell q l pb v).2 e w' := by
  have HA := hid hA
  have HL := hid (show l.length = n by have := hA.1; rw [flatMap_len gI 1 (fun _ => rfl)] at this; omega)
  clear hA
  have hc9 : c ≤ 9223372036854775807 := by unfold maxLen at hc; omega
  cases pb with
  | true =>
    obtain ⟨y, hy⟩ : ∃ y, l ++ [v] = y := ⟨_, rfl⟩
    have HY := hid hy
    have HY0 := hid (show [] ++ l = l from rfl)
    have HYL := hid (show y.length = n + 1 by rw [← hy, List.length_append, HL.out]; rfl)
    have hA2 := HA.out
    cases q
    all_goals
      show Calls Tryd.prog 59 _ w fun e w' => TellPost w v n (l ++ [v]) e w'
      rw [hy]
      clear hy
      go_enter Tryd.func59, Tryd.ntmps59
      go_wp2_with (at_builtin; first
        | (refine wpList_appY elmI gI_one rfl (.const (.slice none 0 0)) (.tmp 41) rfl (.slice none 0 0) [] rfl (Ow.nil w _ 1 gI) l l HY0 rfl HA.out HL.out (by rw [HL.out]; simp only [maxLen]; omega) (by rw [HL.out]; omega) ?_; intro A4 c4 w4 hc4 hc5 HN4 _ _)
        | (refine wpList_appY elmI gI_one rfl (.tmp 42) (.tmp 44) rfl (.slice A4 l.length c4) l rfl (HN4.out.alloc _) [v] y HY rfl (Sl.fresh' _ #[_] 3 1 1 _ rfl rfl) rfl (by rw [HYL.out]; simp only [maxLen]; omega) (by rw [HYL.out]; omega) ?_; intro A5 c5 w5 hc6 hc7 HN5 _ _))
      refine bodyPost_ret (v := .tuple #[.int .i64 v, .int .i64 0, .slice A5 y.length c5]) (by simp [results, Tryd.results59, go_sem]) rfl ?_
      exact ⟨_, A5, y.length, c5, rfl, hc6, hc7, by rw [HYL.out]; exact Nat.le_refl _, HN5.out.sl, HN5.out.below⟩
  | false =>
    cases l with
    | nil =>
      have hn0 : n = 0 := by have := HL.out; simpa using this.symm
      subst hn0
      cases q
      all_goals
        go_enter Tryd.func59, Tryd.ntmps59
        go_wp2_with fail
        refine bodyPost_ret (v := .tuple #[.int .i64 (-1), .int .i64 0, .slice A 0 c]) (by simp [results, Tryd.results59, go_sem]) rfl ?_
        exact ⟨_, A, 0, c, rfl, hn, hc, by omega, HA.out, bnil w⟩
    | cons x l =>
      obtain ⟨m, rfl⟩ : ∃ m, n = m + 1 := ⟨n - 1, by have := HL.out; rw [List.length_cons] at this; omega⟩
      obtain ⟨ad, rfl, hcl⟩ := HA.out.2 (by omega)
      have c0 : w.cell? ad = some (.int .i64 x) := by have := hcl 0 (.int .i64 x) rfl; unfold Addr.add at this; simpa using this
      have i1 : ¬ (((m + 1 : Nat) : Int) = 0) := by omega
      have hcut := Sl.cutG (g := gI) (k := 1) (cap := c) (fun _ => rfl) HA.out (by omega) hn
      have hpre := Sl.preG (g := gI) (k := m) (fun _ => rfl) HA.out (by omega)
      obtain ⟨N, hN⟩ : ∃ N, m + 1 = N := ⟨_, rfl⟩
      have HN := hid hN
      have HCL := hid hcl
      have HPRE := hid hpre
      rw [hN] at hn hn20 i1 HL HA ⊢
      clear hcl hpre
      have iN : (1 : Int) ≤ (N : Int) := by omega
      have iNc : (N : Int) ≤ (c : Int) := by omega
      cases q with
      | true =>
        by_cases hcap : c = 1
        all_goals
          first
            | rw [if_pos hcap] at hcut
            | (rw [if_neg hcap] at hcut; simp only [Option.map_some] at hcut)
          have HCUT := hid hcut
          clear hcut hN
          go_enter Tryd.func59, Tryd.ntmps59
          go_upto_region 15 with fail
          go_quiet (fail)
          go_wp2_with fail
          have hsz : N - 1 = m := by have := HN.out; omega
          have HS2 := hid (show m + 1 - 1 = m by omega)
          rw [HS2.out] at HCUT
          have B9 := below_drewN (bnil w) nq
          first
            | (subst hcap
               refine bodyPost_ret (v := .tuple #[.int .i64 x, .int .i64 0, .slice (some ad) (N - 1) 0]) (by simp [results, Tryd.results59, go_sem]) rfl ?_
               exact ⟨_, _, N - 1, 0, rfl, by omega, by simp [maxLen], by omega, by rw [hsz]; exact HCUT.out.below B9, B9⟩)
            | (refine bodyPost_ret (v := .tuple #[.int .i64 x, .int .i64 0, .slice (some (ad.add (1 * 1))) (N - 1) (c - 1)]) (by simp [results, Tryd.results59, go_sem, Addr.add]) rfl ?_
               exact ⟨_, _, N - 1, c - 1, rfl, by omega, by unfold maxLen at hc ⊢; omega, by omega, by rw [hsz]; exact HCUT.out.below B9, B9⟩)
      | false => 
        clear hcut hN
        go_enter Tryd.func59, Tryd.ntmps59
        obtain ⟨z, hz⟩ : ∃ z, (x :: l)[m]? = some z := ⟨_, List.getElem?_eq_getElem (by have := HL.out; have := HN.out; omega)⟩
        have cz : w.cell? (ad.add m) = some (.int .i64 z) := HCL.out m _ (by have h := flatMap_at gI 1 (fun _ => rfl) (x :: l) m 0 z hz (by decide); rw [Nat.mul_one, Nat.add_zero] at h; rw [h]; rfl)
        have HZ := hid hz
        clear hz c0
        have iw : IntKind.i64.wrap ((N : Int) - 1) = (m : Int) := by have := HN.out; rw [IntWalk.i64_in _ (by omega)]; omega
        have im0 : (0 : Int) ≤ (m : Int) := by omega
        have imN : (m : Int) < (N : Int) := by have := HN.out; omega
        have imN2 : (m : Int) ≤ (N : Int) := by omega
        have imc : (m : Int) ≤ (c : Int) := by omega
        go_upto_region 16 with fail
        go_quiet (fail)
        go_wp2_with fail
        have B9 := below_drewN (bnil w) nq
        refine bodyPost_ret (v := .tuple #[.int .i64 z, .int .i64 0, .slice (some ad) m c]) (by simp [results, Tryd.results59, go_sem]) rfl ?_
        have hlm : (x :: l).length - 1 = m := by have := HL.out; have := HN.out; omega
        have e1 : (otell false (x :: l) false v).1 = z := by
          show (x :: l).getLast?.getD 0 = z
          rw [List.getLast?_eq_getElem?, hlm, HZ.out]; rfl
        have e2 : (otell false (x :: l) false v).2 = (x :: l).take m := by
          show (x :: l).dropLast = _
          rw [List.dropLast_eq_take, hlm]
        rw [e1, e2]
        exact ⟨_, _, m, c, rfl, by have := HN.out; omega, hc, by have := HN.out; omega, HPRE.out.below B9, B9⟩
end

section
open Go.RowKit
def kq (q : Bool) : Int := if q then 3 else 4
abbrev gA : LAct → List Value := fun x => [.int .i64 (x.b : Int), .int .i64 (eI x.e), .bool x.put, .int .i64 x.val, .int .i64 x.by_]
theorem gA_one (x : LAct) : ∀ u ∈ gA x, u.oneCell' = true := by intro u hu; simp at hu; rcases hu with rfl | rfl | rfl | rfl | rfl <;> rfl
theorem elmA : Elm Tryd.prog 45 52 5 40 := elm_of (z := .agg #[.int .i64 0, .int .i64 0, .bool false, .int .i64 0, .int .i64 0]) Tryd.underlying45 (by kernel_rfl) rfl (by decide)
structure ActsAt (w : World) (A : Option Addr) (n : Nat) (L : List LAct) : Prop where
  len : L.length = n
  sl : Sl w 5 A n (L.flatMap gA)
  ok : ∀ a ∈ L, 0 ≤ a.by_ ∧ a.by_ ≤ 5 ∧ (a.put = false → a.by_ = 0)
theorem ActsAt.below {w w' : World} {A : Option Addr} {n : Nat} {L : List LAct} (h : ActsAt w A n L) (hb : Below w.heap.size w w') : ActsAt w' A n L := ⟨h.len, h.sl.below hb, h.ok⟩
theorem ad_off (ad : Addr) (k j : Nat) (hj : 0 < j) : (⟨(ad.add k).block, (ad.add k).off + j, none⟩ : Addr) = ad.add (k + j) := by
  unfold Addr.add
  by_cases hk : k = 0
  · subst hk; rw [if_pos rfl, if_neg (by omega), Nat.zero_add]
  · rw [if_neg hk, if_neg (by omega), Nat.add_assoc]
theorem ActsAt.at_ {w : World} {A : Option Addr} {n i : Nat} {L : List LAct} (h : ActsAt w A n L) (hi : i < n) : ∃ ad a, A = some ad ∧ L[i]? = some a ∧ ad.block < w.heap.size ∧ w.cell? (ad.add (i * 5)) = some (.int .i64 (a.b : Int)) ∧ w.cell? ⟨(ad.add (i * 5)).block, (ad.add (i * 5)).off + 1, none⟩ = some (.int .i64 (eI a.e)) ∧ w.cell? ⟨(ad.add (i * 5)).block, (ad.add (i * 5)).off + 2, none⟩ = some (.bool a.put) ∧ w.cell? ⟨(ad.add (i * 5)).block, (ad.add (i * 5)).off + 3, none⟩ = some (.int .i64 a.val) ∧ w.cell? ⟨(ad.add (i * 5)).block, (ad.add (i * 5)).off + 4, none⟩ = some (.int .i64 a.by_) := by
  obtain ⟨ad, e, hc⟩ := h.sl.2 (by omega)
  have hil : i < L.length := by rw [h.len]; exact hi
  obtain ⟨a, ha⟩ : ∃ a, L[i]? = some a := ⟨_, List.getElem?_eq_getElem hil⟩
  have hat : ∀ j u, j < 5 → (gA a)[j]? = some u → w.cell? (ad.add (i * 5 + j)) = some u := fun j u hj hu => hc _ _ (by rw [flatMap_at gA 5 (fun _ => rfl) L i j a ha hj, hu])
  have e0 := hat 0 _ (by decide) rfl
  have hb := World.block_lt_of_cell? w _ e0
  rw [ad_block] at hb
  refine ⟨ad, a, e, ha, hb, e0, ?_, ?_, ?_, ?_⟩
  · rw [ad_off _ _ _ (by decide)]; exact hat 1 _ (by decide) rfl
  · rw [ad_off _ _ _ (by decide)]; exact hat 2 _ (by decide) rfl
  · rw [ad_off _ _ _ (by decide)]; exact hat 3 _ (by decide) rfl
  · rw [ad_off _ _ _ (by decide)]; exact hat 4 _ (by decide) rfl
/-- where the flag is gone, one ended too early -/
structure FlagOk (L : List LAct) (t : Nat) (fb : Bool) : Prop where
  no : fb = false → ∃ b ∈ L, ∃ e, b.e = some e ∧ e < t
/-- an act that may stand first -/
def CandO (q : Bool) (n : Nat) (has : List Int) (L : List LAct) (i : Nat) : Prop := ∃ a, L[i]? = some a ∧ (∀ b ∈ L, ∀ e, b.e = some e → ¬ e < a.b) ∧ (a.e = none ∨ (otell q has a.put a.val).1 = a.val) ∧ LinO q n (otell q has a.put a.val).2 (L.eraseIdx i)
def LinPostO (q : Bool) (w : World) (n : Nat) (has : List Int) (L : List LAct) (e : Ending) (w' : World) : Prop := ∃ b : Bool, e = .returned (.bool b) ∧ (LinO q n has L → b = true) ∧ Below w.heap.size w w'
set_option maxHeartbeats 8000000 in
set_option maxRecDepth 100000 in
theorem linear_obj (q : Bool) : ∀ (n : Nat) (has : List Int) (L : List LAct) (Ah : Option Addr) (nh ch : Nat) (A : Option Addr) (c : Nat) (w : World), n ≤ c → c ≤ maxLen → n ≤ 20 → nh ≤ ch → ch ≤ maxLen → nh + n ≤ 20 → Sl w 1 Ah nh (has.flatMap gI) → ActsAt w A n L →
    Calls Tryd.prog 30 #[.int .i64 (kq q), .slice Ah nh ch, .slice A n c] w fun e w' => LinPostO q w n has L e w' := by
  have hk2 : ¬ (kq q = 2) := by cases q <;> decide
  have hk3 : (kq q == 2) = false := beqF hk2
  intro n
  induction n with
  | zero =>
    intro has L Ah nh ch A c w hnc hc hn20 hnh hch h1 hcell hL
    have HL := hid hL
    clear hL hcell
    go_enter Tryd.func30, Tryd.ntmps30
    go_wp2_with fail
    go_loopw [7, 8] (fun m i wr => i = .int .i64 0 ∧ m = .bool false ∧ Hid (Below w.heap.size w wr)) (fun _ _ _ => 0)
    case atStart => exact ⟨rfl, rfl, hid (bnil _)⟩
    case round =>
      obtain ⟨rfl, rfl, BR⟩ := hrel
      go_wp2_with fail
      go_ret
      exact ⟨true, rfl, fun _ => rfl, BR.out⟩
  | succ n ih =>
    intro has L Ah nh ch A c w hnc hc hn20 hnh hch h1 hcell hL
    have HL := hid hL; have HC := hid hcell; have IH := hid ih
    clear hL hcell ih
    obtain ⟨N, hN⟩ : ∃ N, n + 1 = N := ⟨_, rfl⟩
    have HN := hid hN
    rw [hN] at HL hnc hn20 h1 ⊢
    clear hN
    go_enter Tryd.func30, Tryd.ntmps30
    go_wp2_with fail
    go_loopw [7, 8] (fun m i wr => ∃ (k : Nat) (mb : Bool), k ≤ N ∧ i = .int .i64 k ∧ m = .bool mb ∧ Hid (mb = true → ∃ a ∈ L, a.e ≠ none) ∧ Hid (Below w.heap.size w wr)) (fun _ i _ => N - (intOf i).toNat)
    case atStart => exact ⟨0, false, Nat.zero_le _, rfl, rfl, hid (fun h => by cases h), hid (bnil _)⟩
    case round =>
      obtain ⟨k, mb, hk, rfl, rfl, HM, BR⟩ := hrel
      by_cases hlt : k < N
      · have j1 : (k : Int) < (N : Int) := by omega
        cases mb with
        | true =>
          go_wp2_with fail
          go_roundw
          case rel => first | exact ⟨k + 1, true, by omega, by go_num, rfl, HM, BR⟩ | exact ⟨k + 1, by omega, by go_num, HM, BR⟩
          case measure => simp [intOf]; omega
        | false =>
          obtain ⟨ad2, a, rfl, ha, hb2, x0, x1, x2, x3, x4⟩ := (HL.out.below BR.out).at_ hlt
          have hmem := List.mem_of_getElem? ha
          have HA := hid ha; have HMM := hid hmem
          clear ha hmem
          cases he : a.e with
          | none =>
            rw [he] at x1
            simp only [eI] at x1
            have HN1 := hid (show (false = true → ∃ a ∈ L, a.e ≠ none) from fun h => by cases h)
            clear he
            go_wp2_with fail
            go_roundw
            case rel => first | exact ⟨k + 1, false, by omega, by go_num, rfl, HN1, BR⟩ | exact ⟨k + 1, by omega, by go_num, HN1, BR⟩
            case measure => simp [intOf]; omega
          | some e =>
            rw [he] at x1
            simp only [eI] at x1
            have en : ¬ ((e : Int) = -1) := by omega
            have HN1 := hid (show (true = true → ∃ a ∈ L, a.e ≠ none) from fun _ => ⟨a, HMM.out, by rw [he]; simp⟩)
            clear he
            go_wp2_with fail
            go_roundw
            case rel => first | exact ⟨k + 1, true, by omega, by go_num, rfl, HN1, BR⟩ | exact ⟨k + 1, by omega, by go_num, HN1, BR⟩
            case measure => simp [intOf]; omega
      · obtain rfl : N = k := by omega
        have j1 : ¬ (N : Int) < (N : Int) := by omega
        cases mb with
        | false =>
          go_wp2_with fail
          go_ret
          exact ⟨true, rfl, fun _ => rfl, BR.out⟩
        | true =>
          have HEX := hid (HM.out rfl)
          have HBR0 := BR
          clear HM
          go_wp2_with fail
          clear BR
          go_loopw [9] (fun i wz => ∃ k : Nat, k ≤ N ∧ i = .int .i64 k ∧ Hid (∀ i', i' < k → ¬ CandO q n has L i') ∧ Hid (Below w.heap.size w wz)) (fun i _ => N - (intOf i).toNat)
          case atStart => exact ⟨0, Nat.zero_le _, rfl, hid (fun i' h => absurd h (by omega)), HBR0⟩
          case round =>
            obtain ⟨k, hk, rfl, HNC, BR⟩ := hrel
            by_cases hlt : k < N
            · have j1 : (k : Int) < (N : Int) := by omega
              obtain ⟨ad2, a, rfl, ha, hb2, x0, x1, x2, x3, x4⟩ := (HL.out.below BR.out).at_ hlt
              have HA := hid ha
              skip
              obtain ⟨E1, hE1⟩ : ∃ E1, eI a.e = E1 := ⟨_, rfl⟩
              rw [hE1] at x1
              have HE1 := hid hE1
              clear ha hE1
              obtain ⟨bx, hbx⟩ : ∃ bx, wr.heap.size = bx := ⟨_, rfl⟩
              have XB0 := hid (blkN wr 52 #[.int .i64 (a.b : Int), .int .i64 E1, .bool a.put, .int .i64 a.val, .int .i64 a.by_] bx hbx)
              have BN := hid (bnew (bnil wr) (.cells #[.int .i64 (a.b : Int), .int .i64 E1, .bool a.put, .int .i64 a.val, .int .i64 a.by_] 52))
              have HBX := hid hbx
              clear hbx
              go_wp2_with fail
              have hbx := HBX.out
              rw [hbx]
              clear hbx
              generalize World.alloc wr (.cells #[.int .i64 (a.b : Int), .int .i64 E1, .bool a.put, .int .i64 a.val, .int .i64 a.by_] 52) = wx at *
              have BRX := hid (bgo BR.out BN.out)
              clear x0 x1 x2 x3 x4
              go_loopw [11, 12] (fun f i wz => ∃ (j : Nat) (fb : Bool), j ≤ N ∧ i = .int .i64 j ∧ f = .bool fb ∧ Hid (FlagOk L a.b fb) ∧ Hid (Below wx.heap.size wx wz)) (fun _ i _ => N - (intOf i).toNat)
              case atStart => exact ⟨0, true, Nat.zero_le _, rfl, rfl, hid ⟨fun h => by cases h⟩, hid (bnil _)⟩
              case round =>
                obtain ⟨j, fb, hj, rfl, rfl, HF, BZ⟩ := hrel
                have XZ := hid (XB0.out.below' BZ.out)
                have y0 : wr.cell? ⟨bx, 0, none⟩ = some (.int .i64 (a.b : Int)) := XZ.out.cell 0
                by_cases hlt2 : j < N
                · have j2 : (j : Int) < (N : Int) := by omega
                  cases fb with
                  | false =>
                    go_wp2_with fail
                    go_quiet (fail)
                    go_wp2_with fail
                    go_roundw
                    case rel => first | exact ⟨j + 1, false, by omega, by go_num, rfl, HF, hid (below_drewN BZ.out nq)⟩ | exact ⟨j + 1, by omega, by go_num, HF, hid (below_drewN BZ.out nq)⟩
                    case measure => simp [intOf]; omega
                  | true =>
                    obtain ⟨ad3, a3, e3, ha3, hb3, z0, z1, z2, z3, z4⟩ := (HL.out.below (bgo BRX.out BZ.out)).at_ hlt2
                    injection e3 with e3
                    subst e3
                    have HMM := hid (List.mem_of_getElem? ha3)
                    clear ha3 z0 z2 z3 z4
                    cases he : a3.e with
                    | none =>
                      rw [he] at z1
                      simp only [eI] at z1
                      clear he
                      go_wp2_with fail
                      go_quiet (fail)
                      go_wp2_with fail
                      go_roundw
                      case rel => first | exact ⟨j + 1, true, by omega, by go_num, rfl, HF, hid (below_drewN BZ.out nq)⟩ | exact ⟨j + 1, by omega, by go_num, HF, hid (below_drewN BZ.out nq)⟩
                      case measure => simp [intOf]; omega
                    | some e =>
                      rw [he] at z1
                      simp only [eI] at z1
                      have en3 : ((e : Int) != -1) = true := bneT (by omega)
                      by_cases hea : e < a.b
                      · have HF1 := hid (show FlagOk L a.b false from ⟨fun _ => ⟨a3, HMM.out, e, he, hea⟩⟩)
                        have i3 : (e : Int) < (a.b : Int) := by omega
                        clear he
                        go_wp2_with fail
                        go_quiet (fail)
                        go_wp2_with fail
                        go_roundw
                        case rel => first | exact ⟨j + 1, false, by omega, by go_num, rfl, HF1, hid (below_drewN BZ.out nq)⟩ | exact ⟨j + 1, by omega, by go_num, HF1, hid (below_drewN BZ.out nq)⟩
                        case measure => simp [intOf]; omega
                      · have HI3 := hid (show decide ((e : Int) < (a.b : Int)) = false by simp; omega)
                        clear he
                        go_wp2_with fail
                        have i3 := HI3.out
                        go_quiet (fail)
                        go_wp2_with fail
                        go_roundw
                        case rel => first | exact ⟨j + 1, true, by omega, by go_num, rfl, HF, hid (below_drewN BZ.out nq)⟩ | exact ⟨j + 1, by omega, by go_num, HF, hid (below_drewN BZ.out nq)⟩
                        case measure => simp [intOf]; omega
                · obtain rfl : N = j := by omega
                  have j2 : ¬ (N : Int) < (N : Int) := by omega
                  have y1 : wr.cell? ⟨bx, 1, none⟩ = some (.int .i64 E1) := XZ.out.cell 1
                  have y2 : wr.cell? ⟨bx, 2, none⟩ = some (.bool a.put) := XZ.out.cell 2
                  have y3 : wr.cell? ⟨bx, 3, none⟩ = some (.int .i64 a.val) := XZ.out.cell 3
                  have y4 : wr.cell? ⟨bx, 4, none⟩ = some (.int .i64 a.by_) := XZ.out.cell 4
                  have BRZ := hid (bgo BRX.out BZ.out)
                  have hh := hid (HC.out.below BRZ.out)
                  go_wp2_with fail
                  refine (tell_obj q has a.val a.put Ah nh ch wr hnh hch (by omega) hh.out).mono ?_
                  rintro e5 w5 ⟨yv, Ah5, nh5, ch5, rfl, hn5, hc5, hn15, hs5, b5⟩
                  obtain ⟨TV, hTV⟩ : ∃ TV, (otell q has a.put a.val).1 = TV := ⟨_, rfl⟩
                  rw [hTV]
                  have HTV := hid hTV
                  clear hTV
                  have y1 := cell_below b5 y1
                  have y3 := cell_below b5 y3
                  have BR5 := hid (bgo BRZ.out b5)
                  have HC5 := hid hs5
                  clear b5 y0 y2 y4 hh hs5
                  have hskip : (fb = false ∨ (E1 ≠ -1 ∧ TV ≠ a.val)) → ∀ i', i' < k + 1 → ¬ CandO q n has L i' := by
                    intro hs i' hi' hcand
                    by_cases e : i' = k
                    · subst e
                      obtain ⟨a', b1, b2, b3, b4⟩ := hcand
                      have := HA.out.symm.trans b1
                      injection this with this
                      subst this
                      rcases hs with hs | ⟨hs1, hs2⟩
                      · obtain ⟨b, hb, e, he, hlt⟩ := HF.out.no hs
                        exact b2 b hb e he hlt
                      · rcases b3 with b3 | b3
                        · rw [← HE1.out, b3] at hs1; exact hs1 rfl
                        · exact hs2 (by rw [← HTV.out]; exact b3)
                    · exact HNC.out i' (by omega) hcand
                  have HSK := hid hskip
                  clear hskip
                  cases fb with
                  | false =>
                    have HN2 := hid (HSK.out (.inl rfl))
                    go_wp2_with fail
                    go_roundw
                    case rel => exact ⟨k + 1, by omega, by go_num, HN2, BR5⟩
                    case measure => simp [intOf]; omega
                  | true =>
                    by_cases hE : E1 = -1
                    · subst hE
                      have HSL := hid (HL.out.below BR5.out).sl
                      have HPRE := hid (Sl.preG (g := gA) (k := k) (fun _ => rfl) HSL.out (by omega))
                      have hcut := Sl.cutG (g := gA) (k := k + 1) (cap := c) (fun _ => rfl) HSL.out (by omega) hnc
                      have HTK := hid (show (L.take k).length = k by rw [List.length_take, HL.out.len]; omega)
                      have HDR := hid (show (L.drop (k + 1)).length = N - (k + 1) by rw [List.length_drop, HL.out.len])
                      obtain ⟨y2, hy2⟩ : ∃ y2, L.take k ++ L.drop (k + 1) = y2 := ⟨_, rfl⟩
                      have HY2 := hid hy2
                      have HY2L := hid (show y2.length = n by rw [← hy2, List.length_append, HTK.out, HDR.out]; have := HN.out; omega)
                      have HY2E := hid (show y2 = L.eraseIdx k by rw [← hy2, List.eraseIdx_eq_take_drop_succ])
                      have hn20' : n ≤ 20 := by have := HN.out; omega
                      have hn1' : nh5 + n ≤ 20 := by have := HN.out; omega
                      skip
                      clear hy2
                      have hkc : k ≤ c := by omega
                      have iw : IntKind.i64.wrap ((k : Int) + 1) = (k : Int) + 1 := IntWalk.i64_in _ (by omega)
                      have itn : ((k : Int) + 1).toNat = k + 1 := by omega
                      have ikk : (k : Int) ≤ (k : Int) + 1 := by omega
                      have ik0 : (0 : Int) ≤ (k : Int) + 1 := by omega
                      have ikN : (k : Int) + 1 ≤ (N : Int) := by omega
                      by_cases hcap : c = k + 1
                      all_goals
                        first
                          | rw [if_pos hcap] at hcut
                          | (rw [if_neg hcap] at hcut; simp only [Option.map_some] at hcut)
                        have HCUT := hid hcut
                        clear hcut
                        go_upto_region 22 with fail
                        refine wp_region_held_drew (S := (fun w' => Below w5.heap.size w5 w')) (by kernel_rfl) ?_ (fun hHeld => ?_)
                        · (try dsimp only); (first | assumption | exact (bnil w5).drew | exact B7.out | exact B6.out)
                        refine wpAnyH_take (i := 0) (oi := ⟨some 100, _, _, _, _, _⟩) (v := ?_) rfl (by kernel_rfl) (by kernel_rfl) (by kernel_rfl) (fun _ _ _ h => h) (Or.inl ⟨by rfl, ?_⟩) (by assumption) ?_
                        rotate_left
                        · intro w hSw; (try dsimp only at hSw); go_simp <;> with_reducible rfl
                        try simp only [Act.put, List.setIfInBounds_toArray, List.set_cons_zero, List.set_cons_succ]
                        refine wpAnyH_take (i := 1) (oi := ⟨some 101, _, _, _, _, _⟩) (v := ?_) rfl (by kernel_rfl) (by kernel_rfl) (by kernel_rfl) (fun _ _ _ h => h) (Or.inl ⟨by rfl, ?_⟩) (by assumption) ?_
                        rotate_left
                        · intro w hSw; (try dsimp only at hSw); go_simp <;> with_reducible rfl
                        try simp only [Act.put, List.setIfInBounds_toArray, List.set_cons_zero, List.set_cons_succ]
                        refine wpAnyH_take (i := 2) (oi := ⟨some 102, _, _, _, _, _⟩) (v := ?_) rfl (by kernel_rfl) (by kernel_rfl) (by kernel_rfl) (fun _ _ _ h => h) (Or.inl ⟨by rfl, ?_⟩) (by assumption) ?_
                        rotate_left
                        · intro w hSw; (try dsimp only at hSw); go_simp <;> with_reducible rfl
                        try simp only [Act.put, List.setIfInBounds_toArray, List.set_cons_zero, List.set_cons_succ]
                        refine wpAnyH_take (i := 4) (oi := ⟨some 104, _, _, _, _, _⟩) (v := ?_) rfl (by kernel_rfl) (by kernel_rfl) (by kernel_rfl) (fun _ _ _ h => h) (Or.inl ⟨by rfl, ?_⟩) (by assumption) ?_
                        rotate_left
                        · intro w hSw; (try dsimp only at hSw); go_simp <;> with_reducible rfl
                        try simp only [Act.put, List.setIfInBounds_toArray, List.set_cons_zero, List.set_cons_succ]
                        refine wpAnyH_take (i := 5) (oi := ⟨some 105, _, _, _, _, _⟩) (v := ?_) rfl (by kernel_rfl) (by kernel_rfl) (by kernel_rfl) (fun _ _ _ h => h) (Or.inl ⟨by rfl, ?_⟩) (by assumption) ?_
                        rotate_left
                        · intro w hSw; (try dsimp only at hSw); go_simp <;> with_reducible rfl
                        try simp only [Act.put, List.setIfInBounds_toArray, List.set_cons_zero, List.set_cons_succ]
                        refine wpAnyH_take (i := 6) (oi := ⟨some 106, _, _, _, _, _⟩) (v := ?_) rfl (by kernel_rfl) (by kernel_rfl) (by kernel_rfl) (fun _ _ _ h => h) (Or.inl ⟨by rfl, ?_⟩) (by assumption) ?_
                        rotate_left
                        · intro w hSw; (try dsimp only at hSw); go_simp <;> with_reducible rfl
                        try simp only [Act.put, List.setIfInBounds_toArray, List.set_cons_zero, List.set_cons_succ]
                        refine wpAnyH_take (i := 7) (oi := ⟨some 107, _, _, _, _, _⟩) (v := ?_) rfl (by kernel_rfl) (by kernel_rfl) (by kernel_rfl) (fun _ _ _ h => h) (Or.inl ⟨by rfl, ?_⟩) (by assumption) ?_
                        rotate_left
                        · intro w hSw; (try dsimp only at hSw); go_simp <;> with_reducible rfl
                        try simp only [Act.put, List.setIfInBounds_toArray, List.set_cons_zero, List.set_cons_succ]
                        refine wpAnyH_ready (rs := [3]) (by kernel_rfl) (by simp) ?_
                        refine AllReadyH.cons (o := ⟨some 103, _, _, _, _, _⟩) rfl (fun K hK => ?_) AllReadyH.nil
                        (refine step_appC elmA gA_one rfl (.const (.slice none 0 0)) (.tmp 102) rfl (.slice none 0 0) [] rfl (own0 _ w5.heap.size _ 5) (L.take k) (L.take k) (hid (List.nil_append _)) rfl (HPRE.out.below (bnil w5).drew) HTK.out (by rw [HTK.out]; simp only [maxLen]; omega) (by rw [HTK.out]; omega) (Nat.le_refl _) ?_; intro A6 c6 w6 hc6 hc6' HN6 HG6 HO6; have B6 := hid (bgo (bnil w5).drew (grown_nil HG6.out)))
                        refine hK.out _ _ ?_ (fun hHeld => ?_)
                        · (try dsimp only); (first | assumption | exact (bnil w5).drew | exact B7.out | exact B6.out)
                        clear hK K
                        try simp only [Act.put, List.setIfInBounds_toArray, List.set_cons_zero, List.set_cons_succ]
                        refine wpAnyH_ready (rs := [8]) (by kernel_rfl) (by simp) ?_
                        refine AllReadyH.cons (o := ⟨some 108, _, _, _, _, _⟩) rfl (fun K hK => ?_) AllReadyH.nil
                        (refine step_appC elmA gA_one rfl (.tmp 103) (.tmp 107) rfl (.slice A6 (L.take k).length c6) (L.take k) rfl HN6.out (L.drop (k + 1)) y2 HY2 rfl (HCUT.out.below B6.out) HDR.out (by rw [HY2L.out]; simp only [maxLen]; omega) (by rw [HY2L.out]; omega) (Nat.le_trans (Nat.le_refl _) B6.out.size) ?_; intro A7 c7 w7 hc7 hc7' HN7 HG7 HO7; have B7 := hid (B6.out.grown HG7.out B6.out.size (fun b hb => (own_ge HN6.out b hb).1)))
                        refine hK.out _ _ ?_ (fun hHeld => ?_)
                        · (try dsimp only); (first | assumption | exact (bnil w5).drew | exact B7.out | exact B6.out)
                        clear hK K
                        try simp only [Act.put, List.setIfInBounds_toArray, List.set_cons_zero, List.set_cons_succ]
                        refine wpAnyH_take (i := 9) (oi := ⟨some 17, _, _, _, _, _⟩) (v := ?_) rfl (by kernel_rfl) (by kernel_rfl) (by kernel_rfl) (fun _ _ _ h => h) (Or.inl ⟨by rfl, ?_⟩) (by assumption) ?_
                        rotate_left
                        · intro w hSw; (try dsimp only at hSw); go_simp <;> with_reducible rfl
                        try simp only [Act.put, List.setIfInBounds_toArray, List.set_cons_zero, List.set_cons_succ]
                        refine wpAnyH_done (by kernel_rfl) ?_ _
                        rotate_left
                        rotate_right
                        first
                          | rw [← hcap]
                          | skip
                        clear hcap
                        have hy2 := HY2L.out
                        rw [hy2] at HN7 hc7 ⊢
                        have HN7' := hid (Sl.own HN7.out)
                        have HA7 := hid (show ActsAt w7 A7 n y2 from ⟨hy2, HN7'.out, fun x hx => HL.out.ok x (by rw [HY2E.out] at hx; exact List.mem_of_mem_eraseIdx hx)⟩)
                        have HC7 := hid (HC5.out.below B7.out)
                        have BR7 := hid (bgo BR5.out B7.out)
                        clear hy2 HN7 HG7 HO7
                        go_wp2_with fail
                        refine (IH.out _ y2 Ah5 nh5 ch5 A7 c7 w7 hc7 hc7' hn20' hn5 hc5 hn1' HC7.out HA7.out).mono ?_
                        rintro e8 w8 ⟨b8, rfl, hb8, bb8⟩
                        have HB8 := hid hb8
                        have BR8 := hid (bgo BR7.out bb8)
                        clear hb8 bb8
                        cases b8 with
                        | true =>
                          go_wp2_with fail
                          go_ret
                          exact ⟨true, rfl, fun _ => rfl, BR8.out⟩
                        | false =>
                          have HN2 := hid (show ∀ i', i' < k + 1 → ¬ CandO q n has L i' from fun i' hi' hcand => by
                            by_cases e : i' = k
                            · subst e
                              obtain ⟨a', b1, b2, b3, b4⟩ := hcand
                              have := HA.out.symm.trans b1
                              injection this with this
                              subst this
                              rw [← HY2E.out] at b4
                              exact absurd (HB8.out b4) (by decide)
                            · exact HNC.out i' (by omega) hcand)
                          go_wp2_with fail
                          go_roundw
                          case rel => exact ⟨k + 1, by omega, by go_num, HN2, BR8⟩
                          case measure => simp [intOf]; omega
                    · have en3 : (E1 != -1) = true := bneT hE
                      by_cases hvh : TV = a.val
                      · have ev : (TV != a.val) = false := bneF hvh
                        have HSL := hid (HL.out.below BR5.out).sl
                        have HPRE := hid (Sl.preG (g := gA) (k := k) (fun _ => rfl) HSL.out (by omega))
                        have hcut := Sl.cutG (g := gA) (k := k + 1) (cap := c) (fun _ => rfl) HSL.out (by omega) hnc
                        have HTK := hid (show (L.take k).length = k by rw [List.length_take, HL.out.len]; omega)
                        have HDR := hid (show (L.drop (k + 1)).length = N - (k + 1) by rw [List.length_drop, HL.out.len])
                        obtain ⟨y2, hy2⟩ : ∃ y2, L.take k ++ L.drop (k + 1) = y2 := ⟨_, rfl⟩
                        have HY2 := hid hy2
                        have HY2L := hid (show y2.length = n by rw [← hy2, List.length_append, HTK.out, HDR.out]; have := HN.out; omega)
                        have HY2E := hid (show y2 = L.eraseIdx k by rw [← hy2, List.eraseIdx_eq_take_drop_succ])
                        have hn20' : n ≤ 20 := by have := HN.out; omega
                        have hn1' : nh5 + n ≤ 20 := by have := HN.out; omega
                        skip
                        clear hy2
                        have hkc : k ≤ c := by omega
                        have iw : IntKind.i64.wrap ((k : Int) + 1) = (k : Int) + 1 := IntWalk.i64_in _ (by omega)
                        have itn : ((k : Int) + 1).toNat = k + 1 := by omega
                        have ikk : (k : Int) ≤ (k : Int) + 1 := by omega
                        have ik0 : (0 : Int) ≤ (k : Int) + 1 := by omega
                        have ikN : (k : Int) + 1 ≤ (N : Int) := by omega
                        by_cases hcap : c = k + 1
                        all_goals
                          first
                            | rw [if_pos hcap] at hcut
                            | (rw [if_neg hcap] at hcut; simp only [Option.map_some] at hcut)
                          have HCUT := hid hcut
                          clear hcut
                          go_upto_region 22 with fail
                          refine wp_region_held_drew (S := (fun w' => Below w5.heap.size w5 w')) (by kernel_rfl) ?_ (fun hHeld => ?_)
                          · (try dsimp only); (first | assumption | exact (bnil w5).drew | exact B7.out | exact B6.out)
                          refine wpAnyH_take (i := 0) (oi := ⟨some 100, _, _, _, _, _⟩) (v := ?_) rfl (by kernel_rfl) (by kernel_rfl) (by kernel_rfl) (fun _ _ _ h => h) (Or.inl ⟨by rfl, ?_⟩) (by assumption) ?_
                          rotate_left
                          · intro w hSw; (try dsimp only at hSw); go_simp <;> with_reducible rfl
                          try simp only [Act.put, List.setIfInBounds_toArray, List.set_cons_zero, List.set_cons_succ]
                          refine wpAnyH_take (i := 1) (oi := ⟨some 101, _, _, _, _, _⟩) (v := ?_) rfl (by kernel_rfl) (by kernel_rfl) (by kernel_rfl) (fun _ _ _ h => h) (Or.inl ⟨by rfl, ?_⟩) (by assumption) ?_
                          rotate_left
                          · intro w hSw; (try dsimp only at hSw); go_simp <;> with_reducible rfl
                          try simp only [Act.put, List.setIfInBounds_toArray, List.set_cons_zero, List.set_cons_succ]
                          refine wpAnyH_take (i := 2) (oi := ⟨some 102, _, _, _, _, _⟩) (v := ?_) rfl (by kernel_rfl) (by kernel_rfl) (by kernel_rfl) (fun _ _ _ h => h) (Or.inl ⟨by rfl, ?_⟩) (by assumption) ?_
                          rotate_left
                          · intro w hSw; (try dsimp only at hSw); go_simp <;> with_reducible rfl
                          try simp only [Act.put, List.setIfInBounds_toArray, List.set_cons_zero, List.set_cons_succ]
                          refine wpAnyH_take (i := 4) (oi := ⟨some 104, _, _, _, _, _⟩) (v := ?_) rfl (by kernel_rfl) (by kernel_rfl) (by kernel_rfl) (fun _ _ _ h => h) (Or.inl ⟨by rfl, ?_⟩) (by assumption) ?_
                          rotate_left
                          · intro w hSw; (try dsimp only at hSw); go_simp <;> with_reducible rfl
                          try simp only [Act.put, List.setIfInBounds_toArray, List.set_cons_zero, List.set_cons_succ]
                          refine wpAnyH_take (i := 5) (oi := ⟨some 105, _, _, _, _, _⟩) (v := ?_) rfl (by kernel_rfl) (by kernel_rfl) (by kernel_rfl) (fun _ _ _ h => h) (Or.inl ⟨by rfl, ?_⟩) (by assumption) ?_
                          rotate_left
                          · intro w hSw; (try dsimp only at hSw); go_simp <;> with_reducible rfl
                          try simp only [Act.put, List.setIfInBounds_toArray, List.set_cons_zero, List.set_cons_succ]
                          refine wpAnyH_take (i := 6) (oi := ⟨some 106, _, _, _, _, _⟩) (v := ?_) rfl (by kernel_rfl) (by kernel_rfl) (by kernel_rfl) (fun _ _ _ h => h) (Or.inl ⟨by rfl, ?_⟩) (by assumption) ?_
                          rotate_left
                          · intro w hSw; (try dsimp only at hSw); go_simp <;> with_reducible rfl
                          try simp only [Act.put, List.setIfInBounds_toArray, List.set_cons_zero, List.set_cons_succ]
                          refine wpAnyH_take (i := 7) (oi := ⟨some 107, _, _, _, _, _⟩) (v := ?_) rfl (by kernel_rfl) (by kernel_rfl) (by kernel_rfl) (fun _ _ _ h => h) (Or.inl ⟨by rfl, ?_⟩) (by assumption) ?_
                          rotate_left
                          · intro w hSw; (try dsimp only at hSw); go_simp <;> with_reducible rfl
                          try simp only [Act.put, List.setIfInBounds_toArray, List.set_cons_zero, List.set_cons_succ]
                          refine wpAnyH_ready (rs := [3]) (by kernel_rfl) (by simp) ?_
                          refine AllReadyH.cons (o := ⟨some 103, _, _, _, _, _⟩) rfl (fun K hK => ?_) AllReadyH.nil
                          (refine step_appC elmA gA_one rfl (.const (.slice none 0 0)) (.tmp 102) rfl (.slice none 0 0) [] rfl (own0 _ w5.heap.size _ 5) (L.take k) (L.take k) (hid (List.nil_append _)) rfl (HPRE.out.below (bnil w5).drew) HTK.out (by rw [HTK.out]; simp only [maxLen]; omega) (by rw [HTK.out]; omega) (Nat.le_refl _) ?_; intro A6 c6 w6 hc6 hc6' HN6 HG6 HO6; have B6 := hid (bgo (bnil w5).drew (grown_nil HG6.out)))
                          refine hK.out _ _ ?_ (fun hHeld => ?_)
                          · (try dsimp only); (first | assumption | exact (bnil w5).drew | exact B7.out | exact B6.out)
                          clear hK K
                          try simp only [Act.put, List.setIfInBounds_toArray, List.set_cons_zero, List.set_cons_succ]
                          refine wpAnyH_ready (rs := [8]) (by kernel_rfl) (by simp) ?_
                          refine AllReadyH.cons (o := ⟨some 108, _, _, _, _, _⟩) rfl (fun K hK => ?_) AllReadyH.nil
                          (refine step_appC elmA gA_one rfl (.tmp 103) (.tmp 107) rfl (.slice A6 (L.take k).length c6) (L.take k) rfl HN6.out (L.drop (k + 1)) y2 HY2 rfl (HCUT.out.below B6.out) HDR.out (by rw [HY2L.out]; simp only [maxLen]; omega) (by rw [HY2L.out]; omega) (Nat.le_trans (Nat.le_refl _) B6.out.size) ?_; intro A7 c7 w7 hc7 hc7' HN7 HG7 HO7; have B7 := hid (B6.out.grown HG7.out B6.out.size (fun b hb => (own_ge HN6.out b hb).1)))
                          refine hK.out _ _ ?_ (fun hHeld => ?_)
                          · (try dsimp only); (first | assumption | exact (bnil w5).drew | exact B7.out | exact B6.out)
                          clear hK K
                          try simp only [Act.put, List.setIfInBounds_toArray, List.set_cons_zero, List.set_cons_succ]
                          refine wpAnyH_take (i := 9) (oi := ⟨some 17, _, _, _, _, _⟩) (v := ?_) rfl (by kernel_rfl) (by kernel_rfl) (by kernel_rfl) (fun _ _ _ h => h) (Or.inl ⟨by rfl, ?_⟩) (by assumption) ?_
                          rotate_left
                          · intro w hSw; (try dsimp only at hSw); go_simp <;> with_reducible rfl
                          try simp only [Act.put, List.setIfInBounds_toArray, List.set_cons_zero, List.set_cons_succ]
                          refine wpAnyH_done (by kernel_rfl) ?_ _
                          rotate_left
                          rotate_right
                          first
                            | rw [← hcap]
                            | skip
                          clear hcap
                          have hy2 := HY2L.out
                          rw [hy2] at HN7 hc7 ⊢
                          have HN7' := hid (Sl.own HN7.out)
                          have HA7 := hid (show ActsAt w7 A7 n y2 from ⟨hy2, HN7'.out, fun x hx => HL.out.ok x (by rw [HY2E.out] at hx; exact List.mem_of_mem_eraseIdx hx)⟩)
                          have HC7 := hid (HC5.out.below B7.out)
                          have BR7 := hid (bgo BR5.out B7.out)
                          clear hy2 HN7 HG7 HO7
                          go_wp2_with fail
                          refine (IH.out _ y2 Ah5 nh5 ch5 A7 c7 w7 hc7 hc7' hn20' hn5 hc5 hn1' HC7.out HA7.out).mono ?_
                          rintro e8 w8 ⟨b8, rfl, hb8, bb8⟩
                          have HB8 := hid hb8
                          have BR8 := hid (bgo BR7.out bb8)
                          clear hb8 bb8
                          cases b8 with
                          | true =>
                            go_wp2_with fail
                            go_ret
                            exact ⟨true, rfl, fun _ => rfl, BR8.out⟩
                          | false =>
                            have HN2 := hid (show ∀ i', i' < k + 1 → ¬ CandO q n has L i' from fun i' hi' hcand => by
                              by_cases e : i' = k
                              · subst e
                                obtain ⟨a', b1, b2, b3, b4⟩ := hcand
                                have := HA.out.symm.trans b1
                                injection this with this
                                subst this
                                rw [← HY2E.out] at b4
                                exact absurd (HB8.out b4) (by decide)
                              · exact HNC.out i' (by omega) hcand)
                            go_wp2_with fail
                            go_roundw
                            case rel => exact ⟨k + 1, by omega, by go_num, HN2, BR8⟩
                            case measure => simp [intOf]; omega
                      · have HN2 := hid (HSK.out (.inr ⟨hE, hvh⟩))
                        have ev : (TV != a.val) = true := bneT hvh
                        have ev2 : ¬ TV = a.val := hvh
                        go_wp2_with fail
                        go_roundw
                        case rel => exact ⟨k + 1, by omega, by go_num, HN2, BR5⟩
                        case measure => simp [intOf]; omega
            · obtain rfl : N = k := by omega
              have j1 : ¬ (N : Int) < (N : Int) := by omega
              go_wp2_with fail
              go_ret
              refine ⟨false, rfl, fun hl => ?_, BR.out⟩
              exfalso
              rw [← HN.out] at hl
              rcases hl with hl | ⟨i, a, b1, b2, b3, b4⟩
              · obtain ⟨a, ha, hae⟩ := HEX.out; exact hae (hl a ha)
              · exact HNC.out i (by have := (List.getElem?_eq_some_iff.1 b1).1; rw [HL.out.len] at this; exact this) ⟨a, b1, b2, b3, b4⟩
end
end Go.Proofs.YtbcjgnigdddlkaaDoor
