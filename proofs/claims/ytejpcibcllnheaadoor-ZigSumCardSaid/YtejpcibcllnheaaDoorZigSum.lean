/-
  ZigSum: a code has as many bits as Size says; its walk.
-/
import Derived.Test.YtejpcibcllnheaaDoorZigEnc
namespace Go.Proofs.YtejpcibcllnheaaDoor
open Go.RowKit
set_option linter.unusedVariables false

def smalls (l : List Int) : List Int := l.map (· / 32)
theorem smalls_ok (l : List Int) (h : ∀ x ∈ l, -9223372036854775808 ≤ x ∧ x ≤ 9223372036854775807) : ∀ x ∈ smalls l, ZSmall x := by
  intro x hx
  obtain ⟨y, hy, rfl⟩ := List.mem_map.1 hx
  have := h y hy
  exact ⟨by show _ ≤ y / 32; omega, by show y / 32 < _; omega⟩
theorem zcodes_snoc (l : List Int) (x : Int) : (zcodes (l ++ [x])).length = (zcodes l).length + zsize x := by
  unfold zcodes
  rw [List.flatMap_append, List.length_append]
  simp [zcode_size]
set_option maxRecDepth 100000 in
set_option maxHeartbeats 4000000 in
theorem law_zigSum (A : Option Addr) (n c : Nat) (l : List Int) (a b : Int) (w : World)
    (hn : n ≤ c) (hc : c ≤ maxLen) (_ : c * 8 ≤ 140737488351232) (hA : Sl w 1 A n (ints l)) (hls : ∀ x ∈ l, -9223372036854775808 ≤ x ∧ x ≤ 9223372036854775807)
    (a0 : -9223372036854775808 ≤ a) (a1 : a ≤ 9223372036854775807) (b0 : -9223372036854775808 ≤ b) (b1 : b ≤ 9223372036854775807) (ht : ZTab w) :
    Calls Tryd.prog 3 #[.slice A n c, .int .i64 a, .int .i64 b] w fun e w' => e = .returned (.bool true) ∧ Below w.heap.size w w' := by
  have H := hid hA; have HL := hid hls; have HT := hid ht; clear hA hls ht
  have HLn := hid H.out.leni
  go_enter Tryd.func3, Tryd.ntmps3
  go_wp2
  go_loopw [7, 8, 9] (fun own m i wr => ∃ k : Nat, k ≤ n ∧ k ≤ 60 ∧ i = .int .i64 (k : Int) ∧ Ow w wr 3 1 gI own (smalls (l.take k)) ∧ m = .int .i64 ((zcodes (smalls (l.take k))).length : Int)) (fun _ _ i _ => n - (intOf i).toNat)
  case atStart => exact ⟨0, by omega, by omega, rfl, Ow.nil w _ _ _, rfl⟩
  case round =>
    obtain ⟨k, hk, hk2, rfl, hO, rfl⟩ := hrel
    have HO := hid hO; clear hO
    have hzl := zcodes_len (smalls (l.take k))
    rw [show (smalls (l.take k)).length = k by unfold smalls; rw [List.length_map, List.length_take]; have := HLn.out; omega] at hzl
    by_cases hlt12 : k < n ∧ k < 60
    · obtain ⟨hlt, hlt2⟩ := hlt12
      · obtain ⟨ad, x, rfl, hx, c0⟩ := (H.out.below HO.out.below).ati hlt
        obtain ⟨x0, x1⟩ := HL.out x (List.mem_of_getElem? hx)
        obtain ⟨y, hy⟩ : ∃ y, smalls (l.take k) ++ [x / 32] = y := ⟨_, rfl⟩
        have HYE := hid (show smalls (l.take (k + 1)) = y by rw [take_next hx, ← hy]; simp [smalls])
        have hyl : y.length = k + 1 := by rw [← hy]; simp [smalls]; have := HLn.out; omega
        have HYL := hid (show (zcodes y).length = (zcodes (smalls (l.take k))).length + zsize (x / 32) by rw [← hy, zcodes_snoc])
        have HYK := hid (show y[k]? = some (x / 32) by rw [← hy, List.getElem?_append_right (by simp [smalls]; omega)]; simp [smalls, show k - min k l.length = 0 by have := HLn.out; omega])
        have hyl2 : y.length ≤ 60 := by omega
        have hky : k < y.length := by omega
        have HY := hid hy; clear hy hx hyl
        obtain ⟨z1, z2⟩ := zsize_bd (x / 32)
        have hs0 : -288230376151711744 ≤ x / 32 := by omega
        have hs1 : x / 32 < 288230376151711744 := by omega
        go_wp2_with fail
        refine (small_law x wr x0 x1).mono ?_
        rintro e w2 ⟨rfl, rfl⟩
        generalize x / 32 = q at *
        go_wp2_with (at_builtin; refine wpList_appY elmI gI_one rfl (.tmp 32) (.tmp 38) rfl u7 (smalls (l.take k)) rfl (HO.out.alloc _) [q] y HY rfl (Sl.fresh wr #[.int .i64 q] 3 1 1 rfl) rfl (by simp only [maxLen]; omega) (by omega) ?_; intro A2 c2 w3 hn2 hc2 HO2 _ _; obtain ⟨ad2, q2, rfl, hq2, c1⟩ := (Ow.sl HO2.out).ati hky; obtain rfl : q2 = q := (by have := HYK.out; rw [hq2] at this; injection this); clear hq2)
        refine (zig_size q2 w3 hs0 hs1 (HT.out.below HO2.out.below)).mono ?_
        rintro e w4 ⟨rfl, hb4⟩
        have HO4 := hid (HO2.out.step hb4); clear hb4 c1
        go_wp2
        go_roundw
        case rel => exact ⟨k + 1, by omega, by omega, by go_num, by rw [HYE.out]; exact HO4.out, by rw [HYE.out, HYL.out]; go_num⟩
        case measure => simp [intOf]; omega
    · have hend : ¬ (k < n) ∨ (k < n ∧ ¬ k < 60) := by omega
      have HY := hid (smalls_ok (l.take k) fun x hx => HL.out x (List.mem_of_mem_take hx))
      have HYN := hid (show (smalls (l.take k)).length = k by unfold smalls; rw [List.length_map, List.length_take]; have := HLn.out; omega)
      obtain ⟨y, hy⟩ : ∃ y, smalls (l.take k) = y := ⟨_, rfl⟩
      rw [hy] at HY HYN hzl HO ⊢
      obtain ⟨A1, c1, rfl, hn1, hc1⟩ := HO.out.form
      have hyl : y.length ≤ 60 := by rw [HYN.out]; exact hk2
      obtain ⟨P, hP⟩ : ∃ P, pack (zcodes y) = P := ⟨_, rfl⟩
      have hpl : P.length = ((zcodes y).length + 7) / 8 := by rw [← hP, pack_len]
      have HP := hid hP
      generalize (zcodes y).length = z at *
      have E1 : ((P.length : Int) != ((z : Int) + 7) / 8) = false := by
        rw [bne_eq_false_iff_eq]; omega
      have hzl2 : z ≤ 3780 := by omega
      clear hpl hzl hy hP
      have HTr := hid (HT.out.below HO.out.below)
      have EO := hid (show zsize 0 = 1 by decide)
      have x0 : -288230376151711744 ≤ a / 32 := by omega
      have x1 : a / 32 < 288230376151711744 := by omega
      have y0 : -288230376151711744 ≤ b / 32 := by omega
      have y1 : b / 32 < 288230376151711744 := by omega
      have E4 : Hid ((if a / 32 < 0 then -(a / 32) else a / 32) ≥ (if b / 32 < 0 then -(b / 32) else b / 32) ∨ (zsize (a / 32) : Int) ≤ (zsize (b / 32) : Int)) := by
        by_cases h : (if a / 32 < 0 then -(a / 32) else a / 32) ≥ (if b / 32 < 0 then -(b / 32) else b / 32)
        · exact .inl h
        · exact .inr (by have := zsize_mono (a / 32) (b / 32) (by omega); omega)
      obtain ⟨sx1, sx2⟩ := zsize_bd (a / 32)
      obtain ⟨sy1, sy2⟩ := zsize_bd (b / 32)
      rcases hend with hend | ⟨hend, hend2⟩
      all_goals
        go_wp2_with fail
        refine (zig_encode _ _ _ y wr (by omega) HO.out.sl HY.out HTr.out).mono ?_
        rintro e w5 ⟨v5, rfl, ho5⟩
        rw [HP.out] at ho5
        obtain ⟨A5, c5, rfl, hn5, hc5⟩ := ho5.form
        have HB5 := hid (bgo HO.out.below ho5.below)
        have HT5 := hid (HTr.out.below ho5.below)
        clear ho5
        go_wp2_with fail
        refine (small_law a w5 a0 a1).mono ?_
        rintro e w5 ⟨rfl, rfl⟩
        generalize a / 32 = p at *
        go_wp2_with fail
        refine (small_law b w5 b0 b1).mono ?_
        rintro e w5 ⟨rfl, rfl⟩
        generalize b / 32 = q at *
        go_wp2_with fail
        refine (zig_size p w5 x0 x1 HT5.out).mono ?_
        rintro e w6 ⟨rfl, hb6⟩
        have HB6 := hid (bgo HB5.out hb6); have HT6 := hid (HT5.out.below hb6); clear hb6
        go_wp2_with fail
        refine (zig_size q w6 y0 y1 HT6.out).mono ?_
        rintro e w7 ⟨rfl, hb7⟩
        have HB7 := hid (bgo HB6.out hb7); have HT7 := hid (HT6.out.below hb7); clear hb7
        go_wp2_with fail
        refine (zig_size 0 w7 (by decide) (by decide) HT7.out).mono ?_
        rintro e w8 ⟨rfl, hb8⟩
        have HB8 := hid (bgo HB7.out hb8); clear hb8
        rw [EO.out]
        generalize zsize p = sp at *
        generalize zsize q = sq at *
        by_cases hp0 : p < 0 <;> by_cases hq0 : q < 0
        all_goals
          have E5 := E4.out
          simp only [hp0, hq0, if_true, if_false] at E5
          have E6 := hid E5; clear E5
          go_wp2
          all_goals
            go_ret
            refine ⟨?_, HB8.out⟩
            show Ending.returned (.bool _) = _
            have E5 := E6.out
            simp
            try omega
end Go.Proofs.YtejpcibcllnheaaDoor
