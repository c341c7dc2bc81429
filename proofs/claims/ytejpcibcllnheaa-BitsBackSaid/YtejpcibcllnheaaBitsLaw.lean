/-
  Fields of raw numbers (FieldsOf), bytes that are the same (sameBytes): walks.
-/
import Derived.Test.YtejpcibcllnheaaBits
namespace Go.Proofs.Ytejpcibcllnheaa
open Go.RowKit
set_option linter.unusedVariables false

set_option maxHeartbeats 1000000 in
theorem same_bytes (A B : Option Addr) (n c d : Nat) (l : List UInt8) (w : World) (hn : n ≤ 9223372036854775807) (hA : Sl w 1 A n (byts l)) (hB : Sl w 1 B n (byts l)) :
    Calls Try.prog 24 #[.slice A n c, .slice B n d] w fun e w' => e = .returned (.bool true) ∧ Below w.heap.size w w' := by
  have HA := hid hA; have HB := hid hB; clear hA hB
  have hnn : ((n : Int) != (n : Int)) = false := by simp
  go_enter Try.func24, Try.ntmps24
  go_wp2
  go_loopw [5] (fun i wr => ∃ k : Nat, k ≤ n ∧ i = .int .i64 k ∧ Below w.heap.size w wr) (fun i _ => n - (intOf i).toNat)
  case atStart => exact ⟨0, Nat.zero_le _, rfl, bnil w⟩
  case round =>
    obtain ⟨k, hk, rfl, hb⟩ := hrel
    have HBw := hid hb; clear hb
    by_cases hlt : k < n
    · obtain ⟨a, x, rfl, hx, c0⟩ := (HA.out.below HBw.out).at_ hlt
      obtain ⟨b, y, rfl, hy, c1⟩ := (HB.out.below HBw.out).at_ hlt
      obtain rfl : x = y := by rw [hx] at hy; injection hy
      clear hx hy
      have i1 : (k : Int) < (n : Int) := by omega
      have hne : ((x.toNat : Int) != (x.toNat : Int)) = false := by simp
      go_wp2_with fail
      go_quiet (fail)
      go_wp2
      go_roundw
      case rel => exact ⟨k + 1, by omega, by go_num, below_drewN HBw.out _⟩
      case measure => simp [intOf]; omega
    · go_wp2
      go_ret
      exact ⟨rfl, HBw.out⟩

/-! ### fields of raw numbers -/
def fieldAt (vs : List Int) (i : Nat) (x : Int) : Nat × Nat := (pk x 61, if i < vs.length ∧ 0 < pk x 61 then pk (vs.getD i 0) ((2 : Int) ^ pk x 61) else 0)
def fieldsOf (ws vs : List Int) (n : Nat) : List (Nat × Nat) := (ws.take n).mapIdx fun i x => fieldAt vs i x
def widthsOf (l : List (Nat × Nat)) : List Int := l.map fun f => (f.1 : Int)
theorem fieldsOf_snoc (ws vs : List Int) (k : Nat) (x : Int) (h : ws[k]? = some x) : fieldsOf ws vs (k + 1) = fieldsOf ws vs k ++ [fieldAt vs k x] := by
  unfold fieldsOf
  rw [take_next h, List.mapIdx_append]
  have hl : k < ws.length := (List.getElem?_eq_some_iff.1 h).1
  simp [List.length_take, Nat.min_eq_left (Nat.le_of_lt hl)]
theorem fieldAt_ok (vs : List Int) (i : Nat) (x : Int) : (fieldAt vs i x).1 ≤ 60 ∧ (fieldAt vs i x).2 < 2 ^ (fieldAt vs i x).1 := by
  have h := pk_lt x 61 (by decide)
  refine ⟨by show pk x 61 ≤ 60; omega, ?_⟩
  show (if i < vs.length ∧ 0 < pk x 61 then pk (vs.getD i 0) ((2 : Int) ^ pk x 61) else 0) < 2 ^ pk x 61
  have hp : 0 < 2 ^ pk x 61 := Nat.pow_pos (by decide)
  split
  · have e : ((2 : Int) ^ pk x 61) = ((2 ^ pk x 61 : Nat) : Int) := by rw [Int.natCast_pow]; rfl
    rw [e]
    have := pk_lt (vs.getD i 0) ((2 ^ pk x 61 : Nat) : Int) (by omega)
    omega
  · exact hp
theorem fieldsOf_ok (ws vs : List Int) (n : Nat) : ∀ f ∈ fieldsOf ws vs n, f.1 ≤ 60 ∧ f.2 < 2 ^ f.1 := by
  intro f hf
  obtain ⟨i, hi, rfl⟩ := List.mem_mapIdx.1 hf
  exact fieldAt_ok vs i _
theorem gF_one (x : Nat × Nat) : ∀ u ∈ gF x, u.oneCell' = true := by intro u hu; simp at hu; rcases hu with rfl | rfl <;> rfl
theorem elmF : Elm Try.prog 37 41 2 16 := elm_of (z := .agg #[.int .i64 0, .int .i64 0]) Try.underlying37 (by kernel_rfl) rfl (by decide)
theorem own_ne_own {w : World} {base base' e e' sz sz' : Nat} {v v' : Value} {n n' : Nat} {xs xs' : List Value} (h : w.ownsRow base e sz v n xs) (h' : w.ownsRow base' e' sz' v' n' xs') (hne : e ≠ e') : ∀ k, v.ownBlock = some k → ¬ (v'.ownBlock = some k) := by
  intro k hk hk'
  rcases h'.2 with ⟨rfl, _⟩ | ⟨g, cap, cur, rfl, _, hh, _⟩
  · simp [Value.ownBlock] at hk'
  · obtain rfl : g = k := by simpa [Value.ownBlock] using hk'
    exact own_ne_blk h hh hne hk
/-- one of two rows of different elements has been appended to: the other stays -/
theorem Ow.other {α β : Type} {w0 w w' : World} {e e' sz sz' : Nat} {g : α → List Value} {g' : β → List Value} {v v' : Value} {l : List α} {l' : List β} (h : Ow w0 w e sz g v l) (h' : Ow w0 w e' sz' g' v' l') (hg : w.grownBy w' v'.ownBlock) (hne : e ≠ e') : Ow w0 w' e sz g v l :=
  ⟨own_chg h.own (Chg.of_grown (M := fun k => v'.ownBlock = some k) hg fun _ h => h) (own_ne_own h.own h'.own hne), below_app h'.below h'.own hg h'.below.size⟩

set_option maxRecDepth 100000 in
set_option maxHeartbeats 2000000 in
theorem fields_of (A B : Option Addr) (n c m d : Nat) (lim : Nat) (ws vs : List Int) (w : World) (hn : n ≤ 9223372036854775807) (hm : m ≤ 9223372036854775807) (hlim : lim ≤ 1000) (hA : Sl w 1 A n (ints ws)) (hB : Sl w 1 B m (ints vs))
    (hws : ∀ x ∈ ws, -9223372036854775808 ≤ x ∧ x ≤ 9223372036854775807) (hvs : ∀ x ∈ vs, -9223372036854775808 ≤ x ∧ x ≤ 9223372036854775807) :
    Calls Try.prog 22 #[.slice A n c, .slice B m d, .int .i64 lim] w fun e w' => ∃ v1 v2, e = .returned (.tuple #[v1, v2]) ∧ Ow w w' 41 2 gF v1 (fieldsOf ws vs lim) ∧ Ow w w' 3 1 gI v2 (widthsOf (fieldsOf ws vs lim)) := by
  have HA := hid hA; have HB := hid hB; have HW := hid hws; have HV := hid hvs; clear hA hB hws hvs
  have HLA := hid HA.out.leni; have HLB := hid HB.out.leni
  go_enter Try.func22, Try.ntmps22
  go_wp2
  go_loopw [8, 9, 10] (fun a b i wr => ∃ k : Nat, k ≤ n ∧ k ≤ lim ∧ i = .int .i64 k ∧ Ow w wr 41 2 gF a (fieldsOf ws vs k) ∧ Ow w wr 3 1 gI b (widthsOf (fieldsOf ws vs k))) (fun _ _ i _ => n - (intOf i).toNat)
  case atStart => exact ⟨0, Nat.zero_le _, Nat.zero_le _, rfl, Ow.nil w _ _ _, Ow.nil w _ _ _⟩
  case round =>
    obtain ⟨k, hk, hk2, rfl, hO1, hO2⟩ := hrel
    have HO1 := hid hO1; have HO2 := hid hO2; clear hO1 hO2
    by_cases hlt : k < n
    · by_cases hlt2 : k < lim
      · obtain ⟨a, x, rfl, hx, c0⟩ := (HA.out.below HO1.out.below).ati hlt
        obtain ⟨hx1, hx2⟩ := HW.out x (List.mem_of_getElem? hx)
        have HS := hid (fieldsOf_snoc ws vs k x hx)
        have HX := hid hx; clear hx
        have i1 : (k : Int) < (n : Int) := by omega
        have i2 : (k : Int) < (lim : Int) := by omega
        go_wp2_with fail
        refine (picked x 61 wr (by decide) hx1 hx2 (by decide)).mono ?_
        rintro e w2 ⟨rfl, rfl⟩
        have hp := pk_lt x 61 (by decide)
        have HP := hid (show fieldAt vs k x = (pk x 61, (fieldAt vs k x).2) from rfl)
        have hbl := World.block_lt_of_cell? wr _ c0
        obtain ⟨ys, hys⟩ : ∃ ys, fieldsOf ws vs k ++ [fieldAt vs k x] = ys := ⟨_, rfl⟩
        obtain ⟨zs, hzs⟩ : ∃ zs, widthsOf (fieldsOf ws vs k) ++ [(pk x 61 : Int)] = zs := ⟨_, rfl⟩
        have HYE := hid (show ys = fieldsOf ws vs (k + 1) by rw [HS.out, hys])
        have HZE := hid (show zs = widthsOf ys by rw [← hys, ← hzs]; simp [widthsOf, fieldAt])
        have hyl : ys.length ≤ 1001 := by
          have hkl : k ≤ ws.length := by have := HLA.out; omega
          rw [HYE.out]; unfold fieldsOf; rw [List.length_mapIdx, List.length_take]; omega
        have hzl : zs.length ≤ 1001 := by rw [HZE.out]; unfold widthsOf; rw [List.length_map]; exact hyl
        have HYS0 := hid hys; have HZS := hid hzs; clear hys hzs
        by_cases hv : k < m ∧ 0 < pk x 61
        · obtain ⟨hv1, hv2⟩ := hv
          obtain ⟨b, y, rfl, hy, d0⟩ := (HB.out.below HO1.out.below).ati hv1
          obtain ⟨hy1, hy2⟩ := HV.out y (List.mem_of_getElem? hy)
          have HF : Hid ((fieldAt vs k x).2 = pk y ((2 : Int) ^ pk x 61)) := by
            show (if k < vs.length ∧ 0 < pk x 61 then _ else 0) = _
            rw [HLB.out, if_pos ⟨hv1, hv2⟩, List.getD_eq_getElem?_getD, hy]; rfl
          have HYS : Hid (fieldsOf ws vs k ++ [(pk x 61, pk y ((2 : Int) ^ pk x 61))] = ys) := by
            have := HYS0.out; rw [HP.out, HF.out] at this; exact this
          clear HF HYS0 HP HS HX hy
          generalize pk x 61 = p at *
          have j1 : (k : Int) < (m : Int) := by omega
          have j2 : (0 : Int) < (p : Int) := by omega
          have hp2 : 2 ^ p ≤ 2 ^ 60 := Nat.pow_le_pow_right (by decide) (by omega)
          have hp3 : 1 ≤ 2 ^ p := Nat.pow_pos (by decide)
          have hbd := World.block_lt_of_cell? wr _ d0
          go_wp2_with fail
          have e2 : ((2 : Int) ^ p) = ((2 ^ p : Nat) : Int) := by rw [Int.natCast_pow]; rfl
          have HP1 := hid (show (1 : Int) ≤ (2 : Int) ^ p by rw [e2]; omega)
          have HP2 := hid (show (2 : Int) ^ p ≤ 4611686018427387904 by rw [e2]; omega)
          have HPW := hid (show IntKind.i64.wrap ((2 : Int) ^ p) = (2 : Int) ^ p from IntWalk.i64_in _ (by rw [e2]; omega))
          clear e2 hp2 hp3
          go_region_with (go_at_call 15; rw [HPW.out]; refine (picked y _ _ HP1.out hy1 hy2 HP2.out).mono ?_; rintro e w9 ⟨rfl, rfl⟩)
          generalize pk y ((2 : Int) ^ p) = q at *
          go_wp2_with (first
            | (at_builtin; refine wpList_appY elmF gF_one rfl (.tmp 47) (.tmp 49) rfl u8 (fieldsOf ws vs k) rfl (HO1.out.step (bnew (bnew (bnil wr) _).drew _)) [(p, q)] ys HYS rfl (Sl.fresh1 wr _ #[.int .i64 (p : Int), .int .i64 (q : Int)] 41 2 1 rfl) rfl (by simp only [maxLen]; omega) (by omega) ?_; intro A1 c1 w1 _ _ HN1 HG1 _; have HM1 := hid ((HO2.out.step (bnew (bnew (bnil wr) _).drew _)).other (HO1.out.step (bnew (bnew (bnil wr) _).drew _)) HG1.out (by decide)); clear HG1)
            | (at_builtin; refine wpList_appY elmI gI_one rfl (.tmp 51) (.tmp 53) rfl u9 (widthsOf (fieldsOf ws vs k)) rfl (HM1.out.step (bnew (bnil _) _)) [(p : Int)] zs HZS rfl (Sl.fresh _ #[.int .i64 (p : Int)] 3 1 1 rfl) rfl (by simp only [maxLen]; omega) (by omega) ?_; intro A2 c2 w5 _ _ HN2 HG2 _; have HK1 := hid ((HN1.out.step (bnew (bnil _) _)).other (HM1.out.step (bnew (bnil _) _)) HG2.out (by decide)); clear HG2))
          go_wp2
          go_roundw
          case rel => exact ⟨k + 1, by omega, by omega, by go_num, by rw [← HYE.out]; exact HK1.out, by rw [← HYE.out, ← HZE.out]; exact HN2.out⟩
          case measure => simp [intOf]; omega
        · have HF : Hid ((fieldAt vs k x).2 = 0) := by
            show (if k < vs.length ∧ 0 < pk x 61 then _ else 0) = 0
            rw [HLB.out, if_neg hv]
          have HYS : Hid (fieldsOf ws vs k ++ [(pk x 61, 0)] = ys) := by
            have := HYS0.out; rw [HP.out, HF.out] at this; exact this
          clear HF HYS0 HP HS HX
          generalize pk x 61 = p at *
          by_cases hv1 : k < m
          all_goals
            have i3 : (k < m → ¬ ((0 : Int) < (p : Int))) := fun h h' => hv ⟨h, by omega⟩
            clear hv
            first
              | (have i4 := i3 hv1; clear i3)
              | clear i3
            go_wp2_with (first
              | (at_builtin; refine wpList_appY elmF gF_one rfl (.tmp 47) (.tmp 49) rfl u8 (fieldsOf ws vs k) rfl (HO1.out.step (bnew (bnew (bnil wr) _) _)) [(p, 0)] ys HYS rfl (Sl.fresh1 wr _ #[.int .i64 (p : Int), .int .i64 (0 : Int)] 41 2 1 rfl) rfl (by simp only [maxLen]; omega) (by omega) ?_; intro A1 c1 w1 _ _ HN1 HG1 _; have HM1 := hid ((HO2.out.step (bnew (bnew (bnil wr) _) _)).other (HO1.out.step (bnew (bnew (bnil wr) _) _)) HG1.out (by decide)); clear HG1)
              | (at_builtin; refine wpList_appY elmI gI_one rfl (.tmp 51) (.tmp 53) rfl u9 (widthsOf (fieldsOf ws vs k)) rfl (HM1.out.step (bnew (bnil _) _)) [(p : Int)] zs HZS rfl (Sl.fresh _ #[.int .i64 (p : Int)] 3 1 1 rfl) rfl (by simp only [maxLen]; omega) (by omega) ?_; intro A2 c2 w5 _ _ HN2 HG2 _; have HK1 := hid ((HN1.out.step (bnew (bnil _) _)).other (HM1.out.step (bnew (bnil _) _)) HG2.out (by decide)); clear HG2))
            go_wp2
            go_roundw
            case rel => exact ⟨k + 1, by omega, by omega, by go_num, by rw [← HYE.out]; exact HK1.out, by rw [← HYE.out, ← HZE.out]; exact HN2.out⟩
            case measure => simp [intOf]; omega
      · obtain rfl : k = lim := by omega
        have hlt2' : ¬ ((k : Int) < (k : Int)) := by omega
        go_wp2
        go_ret2
        exact ⟨_, _, rfl, HO1.out, HO2.out⟩
    · have HE := hid (show fieldsOf ws vs lim = fieldsOf ws vs k by
        unfold fieldsOf; rw [List.take_of_length_le (by have := HLA.out; omega), List.take_of_length_le (by have := HLA.out; omega)])
      go_wp2
      go_ret2
      rw [HE.out]
      exact ⟨_, _, rfl, HO1.out, HO2.out⟩
end Go.Proofs.Ytejpcibcllnheaa
