/-
  zig.Decode: its walk.
-/
import Derived.Test.YtpoaomjpbjcmbaaDoorZget
import Derived.Test.YtpoaomjpbjcmbaaDoorRead
namespace Go.Proofs.YtpoaomjpbjcmbaaDoor
open Go.RowKit
set_option linter.unusedVariables false
theorem ints_at2 {w : World} {A : Option Addr} {n k : Nat} {l : List Int} (h : Sl w 1 A n (ints l)) (hk : k < n) : ∃ ad x, A = some ad ∧ l[k]? = some x ∧ w.cell? (ad.add k) = some (.int .i64 x) := h.ati hk
theorem same_ints (A B : Option Addr) (n c d : Nat) (l : List Int) (w : World) (hn : n ≤ 9223372036854775807) (hA : Sl w 1 A n (ints l)) (hB : Sl w 1 B n (ints l)) :
    Calls Tryd.prog 24 #[.slice A n c, .slice B n d] w fun e w' => e = .returned (.bool true) ∧ Below w.heap.size w w' := by
  have HA := hid hA; have HB := hid hB; clear hA hB
  have hnn : ((n : Int) != (n : Int)) = false := by simp
  go_enter Tryd.func24, Tryd.ntmps24
  go_wp2
  go_loopw [5] (fun i wr => ∃ k : Nat, k ≤ n ∧ i = .int .i64 k ∧ Below w.heap.size w wr) (fun i _ => n - (intOf i).toNat)
  case atStart => exact ⟨0, Nat.zero_le _, rfl, bnil _⟩
  case round =>
    obtain ⟨k, hk, rfl, hb⟩ := hrel
    have HW := hid hb; clear hb
    by_cases hlt : k < n
    · obtain ⟨ad, x, rfl, hx, c1⟩ := (HA.out.below HW.out).ati hlt
      obtain ⟨ad', x', rfl, hx', c2⟩ := (HB.out.below HW.out).ati hlt
      obtain rfl : x = x' := by rw [hx] at hx'; injection hx'
      clear hx hx'
      have hq : ((x : Int) != (x : Int)) = false := by simp
      have i1 : (k : Int) < (n : Int) := by omega
      go_wp2_with fail
      go_region
      all_goals
        go_wp2
        go_roundw
        case rel => exact ⟨k + 1, by omega, by go_num, HW.out.drew⟩
        case measure => simp [intOf] <;> omega
    · obtain rfl : k = n := by omega
      go_wp2
      go_ret
      exact ⟨rfl, HW.out⟩
set_option maxHeartbeats 2000000 in
theorem zig_decode (A : Option Addr) (n c m : Nat) (b : List UInt8) (l : List Int) (ok : Bool) (w : World) (hn : n ≤ 1000000000000000) (hl : ∀ x ∈ l, ZSm x) (hm : l.length = m) (hm2 : m ≤ 240)
    (hb : if ok = true then ∃ rest, unp b = zcodes' l ++ rest else ∃ r, r ≠ [] ∧ zcodes' l = unp b ++ r) (hA : Sl w 1 A n (byts b)) (ht : ZTab w) :
    Calls Tryd.prog 23 #[.slice A n c, .int .i64 (m : Int)] w fun e w' => ∃ v, e = .returned (.tuple #[v, .int .i64 (if ok = true then 0 else 5)]) ∧ Ow w w' 3 1 gI v (if ok = true then l else []) := by
  have HA := hid hA; have HT := hid ht; have HSM := hid hl; have HBB := hid hb; have HLM := hid hm; clear hA ht hl hb hm
  have HLn := hid HA.out.lenb
  have i0 : ¬ (m : Int) < 0 := by omega
  have i00 : ¬ (240 : Int) < (m : Int) := by omega
  go_enter Tryd.func23, Tryd.ntmps23
  go_wp2_with fail
  refine (eye_open w _ _ _).mono ?_
  rintro e w1 ⟨rfl, rfl⟩
  have hbA : 0 < n → ∀ ad, A = some ad → ad.block ≠ w.heap.size := by
    intro h ad e he
    obtain ⟨ad', x, e', _, hc⟩ := HA.out.at_ (k := 0) h
    rw [e] at e'; injection e' with e'; subst e'
    have := World.block_lt_of_cell? w _ hc
    have hb : (ad.add 0).block = ad.block := by unfold Addr.add; split <;> rfl
    omega
  have HBA := hid hbA; clear hbA
  have HW := hid (bnew (bnil w) (.cells (eyeO (.slice A n c) 0) 101))
  have HE := hid (Blk.new w 101 (eyeO (.slice A n c) 0))
  have hgt : w.heap.size ≠ 0 := by have := HT.out.lt; omega
  obtain ⟨g, hg⟩ : ∃ g, w.heap.size = g := ⟨_, rfl⟩
  generalize w.alloc (.cells (eyeO (.slice A n c) 0) 101) = w1 at *
  rw [hg] at HE HBA hgt
  rw [hg]
  have HG := hid hg; clear hg
  go_wp2
  go_loopw [7, 19] (fun o j wr => ∃ t : Nat, t ≤ m ∧ j = .int .i64 t ∧ Ow w wr 3 1 gI o (l.take t) ∧ Blk wr g 101 (eyeO (.slice A n c) (zcodes' (l.take t)).length) ∧ (zcodes' (l.take t)).length ≤ n * 8) (fun _ j _ => m - (intOf j).toNat)
  case atStart => exact ⟨0, Nat.zero_le _, rfl, Ow.nil' HW.out _ _ _, HE.out, Nat.zero_le _⟩
  case round =>
    obtain ⟨t, ht, rfl, ho, he, hp⟩ := hrel
    have HO := hid ho; have HEr := hid he; clear ho he
    have HNE := hid (own_ne_blk HO.out.own HEr.out (by decide))
    by_cases hlt : t < m
    · obtain ⟨x, hx⟩ : ∃ x, l[t]? = some x := ⟨_, List.getElem?_eq_getElem (by rw [HLM.out]; exact hlt)⟩
      have HTK := hid (take_next hx)
      have hrd : (zread ((unp b).drop (zcodes' (l.take t)).length) = (x, 0, (zcode x).length) ∧ (zcodes' (l.take (t + 1))).length = (zcodes' (l.take t)).length + (zcode x).length ∧ (zcodes' (l.take (t + 1))).length ≤ n * 8) ∨ (ok = false ∧ zread ((unp b).drop (zcodes' (l.take t)).length) = (0, 5, 0)) := by
        have hul : (unp b).length = n * 8 := by rw [unp_len, HLn.out]
        cases ok
        · obtain ⟨r, hr, e⟩ := HBB.out
          obtain ⟨_, h2⟩ := zread_at_cut l HSM.out (unp b) r hr e t (by rw [HLM.out]; exact ht) (by rw [hul]; exact hp)
          rcases h2 x hx with ⟨h3, h4, h5⟩ | h3
          · exact .inl ⟨h3, h4, by rw [← hul]; exact h5⟩
          · exact .inr ⟨rfl, h3⟩
        · obtain ⟨r, e⟩ := HBB.out
          obtain ⟨h3, h4⟩ := zread_at l HSM.out (unp b) r e t x hx
          refine .inl ⟨h3, h4, ?_⟩
          have e1 : zcodes' l = zcodes' (l.take (t + 1)) ++ zcodes' (l.drop (t + 1)) := by
            conv => lhs; rw [← List.take_append_drop (t + 1) l]
            unfold zcodes'; rw [List.flatMap_append]
          have e2 := congrArg List.length e
          rw [e1, hul, List.length_append, List.length_append] at e2
          omega
      have hyl : (l.take t).length = t := by rw [List.length_take, HLM.out]; omega
      have HYL := hid hyl; clear hyl
      have HZL := hid (show (zcodes' (l.take (t + 1))).length ≤ (zcodes' (l.take (t + 1))).length from Nat.le_refl _)
      clear hx
      generalize hqe : (zcodes' (l.take t)).length = q at *
      clear hqe
      generalize hqe : (zcodes' (l.take (t + 1))).length = q1 at *
      have HQ1 := hid hqe; clear hqe
      rcases hrd with ⟨h3, h4, h5⟩ | ⟨rfl, h3⟩
      · have HR3 := hid h3; clear h3
        have i1 : (t : Int) < (m : Int) := by omega
        go_wp2_with fail
        refine (zig_get wr g q n c A b hn hp HEr.out (HA.out.below HO.out.below) HBA.out (HT.out.below HO.out.below) hgt).mono ?_
        rw [HR3.out]
        rintro e w3 ⟨rfl, ⟨j, hj, hbk, hj2⟩, hch⟩
        have HJ := hid (hj2 rfl); clear hj hj2
        have HO3 := hid (HO.out.chg hch (fun k hk hkg => HNE.out (by rw [hk, hkg])) (fun k hkg => by rw [hkg, ← HG.out]; exact Nat.le_refl _))
        have HE3 := hid hbk; clear hbk hch
        have HNE3 := hid (own_ne_blk HO3.out.own HE3.out (by decide))
        obtain ⟨y, hy⟩ : ∃ y, l.take t = y := ⟨_, rfl⟩
        rw [hy] at HYL HO3 HTK
        have hyl := HYL.out
        clear hy
        obtain ⟨y1, hy1⟩ : ∃ y1, y ++ [x] = y1 := ⟨_, rfl⟩
        have hy1l : y1.length = t + 1 := by rw [← hy1, List.length_append, hyl]; rfl
        have HY1 := hid hy1; clear hy1
        go_wp2_with (at_builtin; refine wpList_appY elmI gI_one rfl (.tmp 29) (.tmp 31) rfl u7 y rfl (HO3.out.alloc _) [x] y1 HY1 rfl (Sl.fresh _ #[.int .i64 x] 3 1 1 rfl) rfl (by simp only [maxLen]; omega) (by omega) ?_; intro A4 c4 w4 _ _ HN4 HG4 _)
        go_roundw
        case rel =>
          refine ⟨t + 1, by omega, by go_num, ?_, ?_, ?_⟩
          · rw [HTK.out, HY1.out]; have := HN4.out; rw [hy1l] at this; exact this
          · rw [HQ1.out, show q1 = j by rw [HJ.out]; exact h4]; exact (Chg.of_grown HG4.out (fun k h => h) : Chg (fun k => u7.ownBlock = some k) _ _).blk (HE3.out.alloc _) HNE3.out
          · rw [HQ1.out]; exact h5
        case measure => simp [intOf] <;> omega
      · have HR3 := hid h3; clear h3
        have i1 : (t : Int) < (m : Int) := by omega
        go_wp2_with fail
        refine (zig_get wr g q n c A b hn hp HEr.out (HA.out.below HO.out.below) HBA.out (HT.out.below HO.out.below) hgt).mono ?_
        rw [HR3.out]
        rintro e w3 ⟨rfl, ⟨j, hj, hbk, hj2⟩, hch⟩
        have HB3 := hid (HO.out.below.trans (hch.below (B := w.heap.size) (fun k hk => by rw [hk, HG.out]; exact Nat.le_refl _) HO.out.below.size))
        clear hj2 hbk hch
        go_wp2
        go_ret2
        exact ⟨_, rfl, Ow.nil' HB3.out _ _ _⟩
    · have htm : t = m := by omega
      have HTK := hid (show l.take t = l from List.take_of_length_le (by rw [HLM.out]; omega))
      rw [HTK.out] at HO HEr hp
      have hok : ok = true := by
        cases ok
        · obtain ⟨r, hr, e⟩ := HBB.out
          have e2 := congrArg List.length e
          have hr1 : 0 < r.length := List.length_pos_iff.2 hr
          rw [List.length_append, unp_len, HLn.out] at e2
          omega
        · rfl
      subst hok
      have i1 : ¬ (t : Int) < (m : Int) := by omega
      clear HTK
      go_wp2
      go_ret2
      exact ⟨_, rfl, HO.out⟩
end Go.Proofs.YtpoaomjpbjcmbaaDoor
