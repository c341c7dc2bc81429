/-
  barographkeep.tell, linSure: their walks; deals in memory.
-/
import Derived.Test.YtfdgklfkpofkeaaLnSeq
import Derived.Test.YtfdgklfkpofkeaaLnChk
namespace Go.Proofs.Ytfdgklfkpofkeaa
open Go.RowKit Go.Maps
set_option linter.unusedVariables false

def LO.has : LO → List Int
  | .reg v => [v]
  | .ctr v => [v]
  | .heap _ l => l
def TellP (w : World) (o : LO) (p : Bool) (v : Int) (n : Nat) (e : Ending) (w' : World) : Prop := ∃ A' n' c', e = .returned (.tuple #[.int .i64 (o.tell p v).2.1, .int .i64 (o.tell p v).2.2, .slice A' n' c']) ∧ n' ≤ c' ∧ c' ≤ maxLen ∧ n' ≤ n + 1 ∧ ISl w' A' n' (o.tell p v).1.has ∧ Below w.heap.size w w'
theorem TellP.mk' {w w' : World} {o o2 : LO} {p : Bool} {v x y : Int} {n : Nat} (h : o.tell p v = (o2, x, y)) {A' : Option Addr} {n' c' : Nat} {e : Ending} (he : e = .returned (.tuple #[.int .i64 x, .int .i64 y, .slice A' n' c'])) (h1 : n' ≤ c') (h2 : c' ≤ maxLen) (h3 : n' ≤ n + 1) (h4 : ISl w' A' n' o2.has) (h5 : Below w.heap.size w w') : TellP w o p v n e w' :=
  ⟨A', n', c', by rw [h, he], h1, h2, h3, by rw [h]; exact h4, h5⟩
theorem sl_one {w : World} {A : Option Addr} {n : Nat} {x : Int} (h : Sl w 1 A n (ints [x])) : n = 1 ∧ ∃ ad, A = some ad ∧ w.cell? ad = some (.int .i64 x) := by
  have hn : n = 1 := by have := h.leni; simpa using this.symm
  obtain ⟨ad, e, hc⟩ := h.2 (by omega)
  have := hc 0 _ (ints_at (l := [x]) (k := 0) rfl)
  unfold Addr.add at this
  exact ⟨hn, ad, e, by simpa using this⟩
theorem ISl.fresh (w : World) (x : Int) : ISl (w.alloc (.cells #[.int .i64 x] 3)) (some ⟨w.heap.size, 0, none⟩) 1 [x] :=
  ⟨rfl, fun _ => ⟨_, 0, _, rfl, Blk.new w _ _, fun j y hj => by cases j with | zero => simp at hj; subst hj; rfl | succ j => simp at hj⟩⟩
theorem blk9 (w : World) (t : TypeId) (cs : Array Value) (g : Nat) (h : w.heap.size = g) : Blk (w.alloc (.cells cs t)) g t cs := by subst h; exact Blk.new w t cs
set_option maxHeartbeats 2000000 in
theorem tell_reg (r v : Int) (p : Bool) (A : Option Addr) (n c : Nat) (w : World) (hn : n ≤ c) (hc : c ≤ maxLen) (hA : ISl w A n [r]) :
    Calls Try.prog 24 #[.int .i64 1, .slice A n c, .bool p, .int .i64 v] w fun e w' => TellP w (.reg r) p v n e w' := by
  have HA := hid hA
  obtain ⟨rfl, ad, rfl, hc0⟩ := sl_one hA.sl
  clear hA
  cases p with
  | true =>
    go_enter Try.func24, Try.ntmps24
    go_wp2_with fail
    refine bodyPost_ret (v := .tuple #[.int .i64 v, .int .i64 0, .slice (some ⟨w.heap.size, 0, none⟩) 1 1]) (by simp [results, Try.results24, go_sem]) rfl ?_
    exact TellP.mk' (o2 := .reg v) rfl rfl (Nat.le_refl _) (by simp [maxLen]) (by omega) (ISl.fresh w v) (bnew (bnil w) _)
  | false =>
    go_enter Try.func24, Try.ntmps24
    go_wp2_with fail
    refine bodyPost_ret (v := .tuple #[.int .i64 r, .int .i64 0, .slice (some ad) 1 c]) (by simp [results, Try.results24, go_sem]) rfl ?_
    exact TellP.mk' (o2 := .reg r) rfl rfl hn hc (by omega) HA.out (bnil w)
set_option maxHeartbeats 2000000 in
theorem tell_ctr (r v : Int) (p : Bool) (A : Option Addr) (n c : Nat) (w : World) (hn : n ≤ c) (hc : c ≤ maxLen) (hr : 0 ≤ r ∧ r ≤ 1000) (hv : 0 ≤ v ∧ v ≤ 3) (hA : ISl w A n [r]) :
    Calls Try.prog 24 #[.int .i64 2, .slice A n c, .bool p, .int .i64 v] w fun e w' => TellP w (.ctr r) p v n e w' := by
  have HA := hid hA
  obtain ⟨rfl, ad, rfl, hc0⟩ := sl_one hA.sl
  clear hA
  cases p with
  | true =>
    have e1 : r + v ≤ 1000000 := by omega
    have e2 : 0 ≤ r + v := by omega
    have lt := World.block_lt_of_cell? w _ hc0
    have HN := hid (ISl.fresh w (r + v))
    go_enter Try.func24, Try.ntmps24
    go_upto_region 8 with fail
    go_region
    go_wp2_with fail
    refine bodyPost_ret (v := .tuple #[.int .i64 r, .int .i64 v, .slice (some ⟨w.heap.size, 0, none⟩) 1 1]) (by simp [results, Try.results24, go_sem]) rfl ?_
    exact TellP.mk' (o2 := .ctr (r + v)) rfl rfl (Nat.le_refl _) (by simp [maxLen]) (by omega) (HN.out.below (bnil _).drew) (bnew (bnil w) _).drew
  | false =>
    go_enter Try.func24, Try.ntmps24
    go_wp2_with fail
    refine bodyPost_ret (v := .tuple #[.int .i64 r, .int .i64 0, .slice (some ad) 1 c]) (by simp [results, Try.results24, go_sem]) rfl ?_
    exact TellP.mk' (o2 := .ctr r) rfl rfl hn hc (by omega) HA.out (bnil w)
set_option maxHeartbeats 4000000 in
theorem tell_heap (last : Bool) (l : List Int) (v : Int) (pb : Bool) (A : Option Addr) (n c : Nat) (w : World) (hn : n ≤ c) (hc : c ≤ maxLen) (hn20 : n ≤ 20) (hAI : ISl w A n l) :
    Calls Try.prog 24 #[.int .i64 (if last then 4 else 3), .slice A n c, .bool pb, .int .i64 v] w fun e w' => TellP w (.heap last l) pb v n e w' := by
  have HAI := hid hAI
  have HA := hid hAI.sl
  have HL := hid (show l.length = n from hAI.1)
  clear hAI
  have hc9 : c ≤ 9223372036854775807 := by unfold maxLen at hc; omega
  cases pb with
  | true =>
    obtain ⟨y, hy⟩ : ∃ y, l ++ [v] = y := ⟨_, rfl⟩
    have HY := hid hy
    have HY0 := hid (show [] ++ l = l from rfl)
    have HYL := hid (show y.length = n + 1 by rw [← hy, List.length_append, HL.out]; rfl)
    have hA2 := HA.out
    cases last
    all_goals
      clear hy
      go_enter Try.func24, Try.ntmps24
      go_wp2_with (at_builtin; first
        | (refine wpList_appY elmI gI_one rfl (.const (.slice none 0 0)) (.tmp 41) rfl (.slice none 0 0) [] rfl (Ow.nil w _ 1 gI) l l HY0 rfl HA.out HL.out (by rw [HL.out]; simp only [maxLen]; omega) (by rw [HL.out]; omega) ?_; intro A4 c4 w4 hc4 hc5 HN4 _ _)
        | (refine wpList_appY elmI gI_one rfl (.tmp 42) (.tmp 44) rfl (.slice A4 l.length c4) l rfl (HN4.out.alloc _) [v] y HY rfl (Sl.fresh' _ #[_] 3 1 1 _ rfl rfl) rfl (by rw [HYL.out]; simp only [maxLen]; omega) (by rw [HYL.out]; omega) ?_; intro A5 c5 w5 hc6 hc7 HN5 _ _))
      refine bodyPost_ret (v := .tuple #[.int .i64 v, .int .i64 0, .slice A5 y.length c5]) (by simp [results, Try.results24, go_sem]) rfl ?_
      first
        | exact TellP.mk' (o2 := .heap false y) (by show (LO.heap false (l ++ [v]), v, (0 : Int)) = _; rw [HY.out]) rfl hc6 hc7 (by rw [HYL.out]; exact Nat.le_refl _) (ISl.own HN5.out rfl) HN5.out.below
        | exact TellP.mk' (o2 := .heap true y) (by show (LO.heap true (l ++ [v]), v, (0 : Int)) = _; rw [HY.out]) rfl hc6 hc7 (by rw [HYL.out]; exact Nat.le_refl _) (ISl.own HN5.out rfl) HN5.out.below
  | false =>
    cases l with
    | nil =>
      have hn0 : n = 0 := by have := HL.out; simpa using this.symm
      subst hn0
      cases last
      all_goals
        go_enter Try.func24, Try.ntmps24
        go_wp2_with fail
        refine bodyPost_ret (v := .tuple #[.int .i64 (-1), .int .i64 0, .slice A 0 c]) (by simp [results, Try.results24, go_sem]) rfl ?_
        exact TellP.mk' rfl rfl hn hc (by omega) HAI.out (bnil w)
    | cons x l =>
      obtain ⟨m, rfl⟩ : ∃ m, n = m + 1 := ⟨n - 1, by have := HL.out; rw [List.length_cons] at this; omega⟩
      obtain ⟨ad, rfl, hcl⟩ := HA.out.2 (by omega)
      have c0 : w.cell? ad = some (.int .i64 x) := by have := hcl 0 (.int .i64 x) rfl; unfold Addr.add at this; simpa using this
      have i1 : ¬ (((m + 1 : Nat) : Int) = 0) := by omega
      have hcut := ISl.tail (cap := c) HAI.out hn
      have hpre := ISl.front HAI.out
      obtain ⟨N, hN⟩ : ∃ N, m + 1 = N := ⟨_, rfl⟩
      have HN := hid hN
      have HCL := hid hcl
      have HPRE := hid hpre
      rw [hN] at hn hn20 i1 HL HA HAI ⊢
      clear hcl hpre
      have iN : (1 : Int) ≤ (N : Int) := by omega
      have iNc : (N : Int) ≤ (c : Int) := by omega
      cases last with
      | false =>
        by_cases hcap : c = 1
        all_goals
          first
            | rw [if_pos hcap] at hcut
            | (rw [if_neg hcap] at hcut; simp only [Option.map_some] at hcut)
          have HCUT := hid hcut
          clear hcut hN
          go_enter Try.func24, Try.ntmps24
          go_upto_region 15 with fail
          go_quiet (fail)
          go_wp2_with fail
          have hsz : N - 1 = m := by have := HN.out; omega
          have B9 := below_drewN (bnil w) nq
          first
            | (subst hcap
               refine bodyPost_ret (v := .tuple #[.int .i64 x, .int .i64 0, .slice (some ad) (N - 1) 0]) (by simp [results, Try.results24, go_sem]) rfl ?_
               exact TellP.mk' (o2 := .heap false l) rfl rfl (by omega) (by simp [maxLen]) (by omega) (by rw [hsz]; exact HCUT.out.below B9) B9)
            | (refine bodyPost_ret (v := .tuple #[.int .i64 x, .int .i64 0, .slice (some (ad.add 1)) (N - 1) (c - 1)]) (by simp [results, Try.results24, go_sem, Addr.add]) rfl ?_
               exact TellP.mk' (o2 := .heap false l) rfl rfl (by omega) (by unfold maxLen at hc ⊢; omega) (by omega) (by rw [hsz]; exact HCUT.out.below B9) B9)
      | true =>
        clear hcut hN
        go_enter Try.func24, Try.ntmps24
        obtain ⟨z, hz⟩ : ∃ z, (x :: l)[m]? = some z := ⟨_, List.getElem?_eq_getElem (by have := HL.out; have := HN.out; omega)⟩
        have cz : w.cell? (ad.add m) = some (.int .i64 z) := HCL.out m _ (by have h := flatMap_at gI 1 (fun _ => rfl) (x :: l) m 0 z hz (by decide); rw [Nat.mul_one, Nat.add_zero] at h; rw [show ints (x :: l) = (x :: l).flatMap gI from rfl, h]; rfl)
        have HZ := hid hz
        clear hz c0
        have iw : IntKind.i64.wrap ((N : Int) - 1) = (m : Int) := by have := HN.out; rw [IntWalk.i64_in _ (by omega)]; omega
        have im0 : (0 : Int) ≤ (m : Int) := by omega
        have imN : (m : Int) < (N : Int) := by have := HN.out; omega
        have imN2 : (m : Int) ≤ (N : Int) := by omega
        have imc : (m : Int) ≤ (c : Int) := by omega
        go_upto_region 16 with fail
        go_quiet (fail)
        go_wp2_with fail
        have B9 := below_drewN (bnil w) nq
        refine bodyPost_ret (v := .tuple #[.int .i64 z, .int .i64 0, .slice (some ad) m c]) (by simp [results, Try.results24, go_sem]) rfl ?_
        have hlm : (x :: l).length - 1 = m := by have := HL.out; have := HN.out; omega
        have e1 : (x :: l).getLastD 0 = z := by rw [List.getLastD_eq_getLast?, List.getLast?_eq_getElem?, hlm, HZ.out]; rfl
        exact TellP.mk' (o2 := .heap true (x :: l).dropLast) (by show (LO.heap true (x :: l).dropLast, (x :: l).getLastD 0, (0 : Int)) = _; rw [e1]) rfl (by have := HN.out; omega) hc (by have := HN.out; omega) (HPRE.out.below B9) B9
theorem tell_of (o : LO) (kd k : Nat) (v : Int) (p : Bool) (A : Option Addr) (n c : Nat) (w : World) (hkd : o.kd = kd) (hs : o.small k) (hk : k ≤ 20) (hv : 0 ≤ v ∧ v ≤ 3) (hn : n ≤ c) (hc : c ≤ maxLen) (hn20 : n ≤ 20) (hA : ISl w A n o.has) :
    Calls Try.prog 24 #[.int .i64 ((kd : Int) + 1), .slice A n c, .bool p, .int .i64 v] w fun e w' => TellP w o p v n e w' := by
  cases o with
  | reg r => subst hkd; exact tell_reg r v p A n c w hn hc hA
  | ctr r => subst hkd; exact tell_ctr r v p A n c w hn hc ⟨hs.1, by have := hs.2; omega⟩ hv hA
  | heap last l =>
    have h := tell_heap last l v p A n c w hn hc hn20 hA
    cases last
    · subst hkd; exact h
    · subst hkd; exact h
theorem gA_one (x : LA) : ∀ u ∈ gA x, u.oneCell' = true := by intro u hu; simp at hu; rcases hu with rfl | rfl | rfl | rfl | rfl <;> rfl
theorem elmA : Elm Try.prog 27 32 5 40 := elm_of (z := .agg #[.int .i64 0, .int .i64 0, .bool false, .int .i64 0, .int .i64 0]) Try.underlying27 (by kernel_rfl) rfl (by decide)
set_option maxRecDepth 100000 in
set_option maxHeartbeats 2000000 in
theorem lin_sure (w : World) : Calls Try.prog 14 #[] w fun e w' => e = .returned (.bool true) ∧ Below w.heap.size w w' := by
  have HC := hid (fun (x : Int) (w' : World) (g : Nat) (hg : w'.heap.size = g) => lin_check 0 0 (some ⟨g, 0, none⟩) 1 1 [⟨1, 2, false, x, 0⟩] (w'.alloc (.cells #[.int .i64 1, .int .i64 2, .bool false, .int .i64 x, .int .i64 0] 32)) (by decide) (by decide)
    (Sl.fresh' w' #[.int .i64 1, .int .i64 2, .bool false, .int .i64 x, .int .i64 0] 32 5 1 g hg rfl) rfl (fun a ha => by rw [List.mem_singleton.1 ha]; exact ⟨show (0 : Int) ≤ 1 by decide, show (1 : Int) ≤ 1048576 by decide, .inr ⟨show (1 : Int) ≤ 2 by decide, show (2 : Int) ≤ 1048576 by decide⟩, .inl rfl, fun h => by omega⟩))
  go_enter Try.func14, Try.ntmps14
  go_wp2_with fail
  refine (HC.out 0 w _ rfl).mono ?_
  rintro e w1 ⟨b1, rfl, hb1, z1⟩
  obtain rfl : b1 = true := hb1.2 one_yes
  have Z1 := hid (bgo (bnew (bnil w) _) z1)
  clear hb1 z1
  go_wp2_with fail
  refine (HC.out 1 w1 _ rfl).mono ?_
  rintro e w2 ⟨b2, rfl, hb2, z2⟩
  obtain rfl : b2 = false := by cases b2 <;> first | rfl | exact absurd (hb2.1 rfl) one_no
  have Z2 := hid (bgo Z1.out (bgo (bnew (bnil w1) _) z2))
  clear hb2 z2
  go_wp2_with fail
  go_ret
  exact ⟨rfl, Z2.out⟩
end Go.Proofs.Ytfdgklfkpofkeaa
