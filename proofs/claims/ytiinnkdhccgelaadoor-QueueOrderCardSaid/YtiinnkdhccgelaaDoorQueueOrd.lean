/-
  QueueOrder: its walk. Written by gen_qord.py.
-/
import Derived.Test.YtiinnkdhccgelaaDoorQMach
import Derived.Test.YtiinnkdhccgelaaDoorQOrd
import Derived.Test.YtiinnkdhccgelaaDoorOWalk
namespace Go.Proofs.YtiinnkdhccgelaaDoor
open Go.RowKit
set_option linter.unusedVariables false

abbrev zero64 : Array Value := #[.int .i64 0, .int .i64 0, .int .i64 0, .int .i64 0, .int .i64 0, .int .i64 0, .int .i64 0, .int .i64 0, .int .i64 0, .int .i64 0, .int .i64 0, .int .i64 0, .int .i64 0, .int .i64 0, .int .i64 0, .int .i64 0, .int .i64 0, .int .i64 0, .int .i64 0, .int .i64 0, .int .i64 0, .int .i64 0, .int .i64 0, .int .i64 0, .int .i64 0, .int .i64 0, .int .i64 0, .int .i64 0, .int .i64 0, .int .i64 0, .int .i64 0, .int .i64 0, .int .i64 0, .int .i64 0, .int .i64 0, .int .i64 0, .int .i64 0, .int .i64 0, .int .i64 0, .int .i64 0, .int .i64 0, .int .i64 0, .int .i64 0, .int .i64 0, .int .i64 0, .int .i64 0, .int .i64 0, .int .i64 0, .int .i64 0, .int .i64 0, .int .i64 0, .int .i64 0, .int .i64 0, .int .i64 0, .int .i64 0, .int .i64 0, .int .i64 0, .int .i64 0, .int .i64 0, .int .i64 0, .int .i64 0, .int .i64 0, .int .i64 0, .int .i64 0]
def tkOf (d : Dg) : Option Int := if d.t = 2 then (match d.e with | none => none | some _ => (match d.told with | [v] => if v = -1 then none else some v | _ => none)) else none
/-- what was taken, as told by the first k calls -/
def tkn (ds : List Dg) (k : Nat) : List Int := (ds.take k).filterMap tkOf
theorem tkn_next {ds : List Dg} {k : Nat} {d : Dg} (h : ds[k]? = some d) : tkn ds (k + 1) = tkn ds k ++ (tkOf d).toList := by
  unfold tkn
  rw [List.take_add_one, h, List.filterMap_append]
  cases hd : tkOf d <;> simp [hd]
theorem tkn_none {ds : List Dg} {k : Nat} {d : Dg} (h : ds[k]? = some d) (hd : tkOf d = none) : tkn ds (k + 1) = tkn ds k := by rw [tkn_next h, hd]; simp
theorem tkn_mem {ds : List Dg} {k : Nat} {u : Int} (h : u ∈ tkn ds k) : ∃ j d, j < k ∧ ds[j]? = some d ∧ tkOf d = some u := by
  obtain ⟨d, hd, hu⟩ := List.mem_filterMap.1 h
  obtain ⟨j, hj⟩ := List.getElem?_of_mem hd
  rw [List.getElem?_take] at hj
  split at hj
  · exact ⟨j, d, by assumption, hj, hu⟩
  · cases hj
theorem tk_some {d : Dg} {v : Int} (h : tkOf d = some v) : d.t = 2 ∧ (∃ e, d.e = some e) ∧ d.told = [v] ∧ v ≠ -1 := by
  unfold tkOf at h
  split at h
  · rename_i h1
    refine ⟨h1, ?_⟩
    split at h
    · cases h
    · rename_i e he
      refine ⟨⟨e, he⟩, ?_⟩
      split at h
      · rename_i w hw
        split at h
        · cases h
        · injection h with h; subst h; exact ⟨hw, by assumption⟩
      · cases h
  · cases h
theorem tkn_up {ds : List Dg} (Q : QOrd ds) {k : Nat} {d : Dg} {v : Int} (hk : ds[k]? = some d) (hd : tkOf d = some v) : ∀ u ∈ tkn ds k, UpV u v := by
  intro u hu
  obtain ⟨j, d', hj, hd', hu'⟩ := tkn_mem hu
  obtain ⟨a1, ⟨e, a2⟩, a3, a4⟩ := tk_some hd
  obtain ⟨b1, ⟨e', b2⟩, b3, b4⟩ := tk_some hu'
  exact Q.ord j k d' d e' e u v hj hd' hk b1 a1 b2 a2 b3 a3 b4 a4
def lastV (T : List Int) (r : Int) : Int := ((T.filter fun v => v % 3 == r).getLast?).getD (-1)
theorem lastV_snoc (T : List Int) (v r : Int) : lastV (T ++ [v]) r = if v % 3 = r then v else lastV T r := by
  unfold lastV
  rw [List.filter_append]
  by_cases h : v % 3 = r
  · rw [if_pos h, List.filter_cons_of_pos (by simpa using h)]; simp
  · rw [if_neg h, List.filter_cons_of_neg (by simpa using h)]; simp
theorem lastV_lt {T : List Int} {v : Int} (h0 : 0 ≤ v) (h : ∀ u ∈ T, UpV u v) : lastV T (v % 3) < v := by
  unfold lastV
  cases hl : (T.filter fun u => u % 3 == v % 3).getLast? with
  | none => simp; omega
  | some u =>
    have hm := List.mem_of_getLast? hl
    obtain ⟨h1, h2⟩ := List.mem_filter.1 hm
    exact (h u h1).2 (by simpa using h2)
def cntF (T : List Int) (i : Nat) : Value := .int .i64 (T.count (i : Int) : Int)
theorem zero64_eq : zero64 = arrN (cntF []) 64 := rfl
theorem cntF_upd {T : List Int} {v : Nat} (h : ∀ u ∈ T, UpV u (v : Int)) : upd (cntF T) v (.int .i64 1) = cntF (T ++ [(v : Int)]) := by
  have h0 : T.count (v : Int) = 0 := List.count_eq_zero.2 fun hm => (h _ hm).1 rfl
  funext i
  unfold upd cntF
  rw [List.count_append]
  by_cases e : i = v
  · subst e; rw [if_pos rfl, h0]; simp
  · rw [if_neg e]
    have : List.count (i : Int) [(v : Int)] = 0 := by
      rw [List.count_eq_zero]; intro hm; rw [List.mem_singleton] at hm; omega
    rw [this]; rfl
theorem last_set {w : World} {bl : Nat} {T : List Int} {v : Nat} (h : Blk w bl 3 #[.int .i64 (lastV T 0), .int .i64 (lastV T 1), .int .i64 (lastV T 2)]) : Blk (w.setCell ⟨bl, v % 3, none⟩ (.int .i64 (v : Int))) bl 3 #[.int .i64 (lastV (T ++ [(v : Int)]) 0), .int .i64 (lastV (T ++ [(v : Int)]) 1), .int .i64 (lastV (T ++ [(v : Int)]) 2)] := by
  have h1 := h.set_ (v % 3) (.int .i64 (v : Int))
  rw [lastV_snoc, lastV_snoc, lastV_snoc]
  rcases (show v % 3 = 0 ∨ v % 3 = 1 ∨ v % 3 = 2 by omega) with e | e | e
  all_goals
    rw [e] at h1 ⊢
  · rw [if_pos (by omega), if_neg (by omega), if_neg (by omega)]; exact h1
  · rw [if_neg (by omega), if_pos (by omega), if_neg (by omega)]; exact h1
  · rw [if_neg (by omega), if_neg (by omega), if_pos (by omega)]; exact h1
set_option maxHeartbeats 8000000 in
set_option maxRecDepth 100000 in
theorem law_queueOrder (xi : Int) (S : Option Addr) (p q : Nat) (bs : List UInt8) (w : World) (ha : -9223372036854775808 ≤ xi) (ha1 : xi ≤ 9223372036854775807) (hp : p ≤ q) (hq : q ≤ maxLen) (_ : q * 1 ≤ 140737488351232) (hS : Sl w 1 S p (byts bs)) (hT : STab w) :
    Calls Tryd.prog 10 #[.int .i64 xi, .slice S p q] w fun e w' => e = .returned (.bool true) ∧ Below w.heap.size w w' := by
  have HS := hid hS; have HT := hid hT
  clear hS hT
  have hpl : p ≤ 9223372036854775807 := by unfold maxLen at hq; omega
  clear hq
  have m1 := pk_lt xi 8 (by decide)
  obtain ⟨N, hR⟩ : ∃ N : Nat, wrap64 (1 + (pk xi 8 : Int)) = (N : Int) ∧ N = 1 + pk xi 8 := ⟨1 + pk xi 8, by rw [wrap_mid (by omega) (by omega)]; omega, rfl⟩
  have h1 : 1 ≤ N := by omega
  have h8 : N ≤ 8 := by omega
  have HR := hid hR.1
  clear hR m1
  go_enter Tryd.func10, Tryd.ntmps10
  go_wp2_with fail
  refine (picked xi 8 w (by decide) ha ha1 (by decide)).mono ?_
  rintro e w' ⟨rfl, rfl⟩
  go_wp2_with fail
  rw [HR.out]
  go_loopw [6, 7] (fun v i wr => ∃ k : Nat, k ≤ 45 ∧ i = .int .i64 k ∧ Hid (Ow w wr 4 1 gBo v (okinds k))) (fun _ i _ => 45 - (intOf i).toNat)
  case atStart => exact ⟨0, Nat.zero_le _, rfl, hid (Ow.nil _ _ _ _)⟩
  case round =>
    obtain ⟨k, hk, rfl, HO⟩ := hrel
    obtain ⟨Av, cv, rfl, hcv, hcv2⟩ := HO.out.form
    have hkl : (okinds k).length = k := by simp [okinds]
    rw [hkl] at hcv ⊢
    rw [hkl] at HO
    by_cases hlt : k < 45
    · have j1 : (k : Int) < 45 := by omega
      obtain ⟨r, hr⟩ : ∃ r, k % 3 = r := ⟨_, rfl⟩
      have em : (k : Int).tmod 3 = (r : Int) := by rw [Int.tmod_eq_emod_of_nonneg (by omega), ← hr]; omega
      obtain ⟨y, hy⟩ : ∃ y, okinds k ++ [((r : Int) == 2)] = y := ⟨_, rfl⟩
      have HY := hid hy
      have HYE := hid (show y = okinds (k + 1) by
        rw [← hy]; unfold okinds; rw [List.range_succ, List.map_append]; congr 1
        simp only [List.map_cons, List.map_nil, hr]; congr 1
        rcases (show r = 2 ∨ r ≠ 2 by omega) with e | e
        · subst e; rfl
        · rw [beqF (by omega : ¬ ((r : Int) = 2))]; simp [e])
      have HYL := hid (show y.length = k + 1 by rw [← hy, List.length_append, hkl]; rfl)
      clear hy hr
      go_wp2_with (at_builtin; refine wpList_appY elmBo gBo_one rfl (.tmp 24) (.tmp 28) rfl (.slice Av k cv) (okinds k) rfl (HO.out.alloc _) [((r : Int) == 2)] y HY rfl (Sl.fresh' _ #[_] 4 1 1 _ rfl rfl) rfl (by rw [HYL.out]; simp only [maxLen]; omega) (by rw [HYL.out]; omega) ?_; intro A4 c4 w4 hc4 hc5 HN4 _ _)
      go_roundw
      case rel => exact ⟨k + 1, by omega, by go_num, by rw [← HYE.out]; exact HN4⟩
      case measure => simp [intOf]; omega
    · obtain rfl : k = 45 := by omega
      have j1 : ¬ (((45 : Nat) : Int) < 45) := by omega
      have BK := hid HO.out.below
      have HKS := hid (show Sl wr 1 Av 45 ((okinds 45).flatMap fun b : Bool => [Value.bool b]) by exact HO.out.sl)
      clear HO hcv hcv2 hkl
      go_wp2_with fail
      refine (queue_machine N Av 45 cv 45 (okinds 45) wr h1 h8 (by decide) (by decide) HKS.out (HT.out.below BK.out)).mono ?_
      rintro e w1 hp1
      obtain ⟨AW, cW, Cb, T, cv1, tv, av, rfl, hW, hM, b1⟩ := hp1
      have HM := hid hM; have B1 := hid (bgo BK.out b1); have HW := hid hW
      clear hM b1 hW HKS
      obtain ⟨X, hX⟩ : ∃ X, w1.heap.size = X := ⟨_, rfl⟩
      go_upto_region 8 with fail
      have HX0 := hid (blkN w1 34 #[.slice AW 1 cW, .slice (some ⟨Cb, 0, none⟩) 2 2, .slice (some ⟨T, 0, none⟩) 3 3] X hX)
      have BA := hid (bgo B1.out (bnew (bnil w1) (.cells #[.slice AW 1 cW, .slice (some ⟨Cb, 0, none⟩) 2 2, .slice (some ⟨T, 0, none⟩) 3 3] 34)))
      have HMN := hid (HM.out.below (bnew (bnil w1) (.cells #[.slice AW 1 cW, .slice (some ⟨Cb, 0, none⟩) 2 2, .slice (some ⟨T, 0, none⟩) 3 3] 34)))
      have HMA := hid (omach_at (ws := [0]) HMN.out (Nat.le_of_ble_eq_true rfl) (Nat.le_of_ble_eq_true rfl) (qput_sh N) qtake_sh (by decide))
      have HWA := hid (own_below HW.out (bnew (bnil w1) (.cells #[.slice AW 1 cW, .slice (some ⟨Cb, 0, none⟩) 2 2, .slice (some ⟨T, 0, none⟩) 3 3] 34)))
      generalize World.alloc w1 _ = wA at *
      clear hX HM HW
      have y0 : wA.cell? ⟨X, 0, none⟩ = some (.slice AW 1 cW) := HX0.out.cell 0
      have y1 : wA.cell? ⟨X, 1, none⟩ = some (.slice (some ⟨Cb, 0, none⟩) 2 2) := HX0.out.cell 1
      have y2 : wA.cell? ⟨X, 2, none⟩ = some (.slice (some ⟨T, 0, none⟩) 3 3) := HX0.out.cell 2
      refine wp_region_held_drew (S := (fun w' => w'.cell? ⟨X, 0, none⟩ = some (.slice AW 1 cW) ∧ w'.cell? ⟨X, 1, none⟩ = some (.slice (some ⟨Cb, 0, none⟩) 2 2) ∧ w'.cell? ⟨X, 2, none⟩ = some (.slice (some ⟨T, 0, none⟩) 3 3))) (by kernel_rfl) ?_ (fun hHeld => ?_)
      · (try dsimp only); (first | assumption | exact ⟨y0, y1, y2⟩ | exact ⟨z0, z1, z2⟩ | exact ⟨u0, u1, u2⟩)
      refine wpAnyH_take (i := 0) (oi := ⟨some 37, _, _, _, _, _⟩) (v := ?_) rfl (by kernel_rfl) (by kernel_rfl) (by kernel_rfl) (fun _ _ _ h => h) (Or.inl ⟨by rfl, ?_⟩) (by assumption) ?_
      rotate_left
      · intro w hSw; (try dsimp only at hSw); go_simp <;> with_reducible rfl
      try simp only [Act.put, List.setIfInBounds_toArray, List.set_cons_zero, List.set_cons_succ]
      refine wpAnyH_take (i := 1) (oi := ⟨some 38, _, _, _, _, _⟩) (v := ?_) rfl (by kernel_rfl) (by kernel_rfl) (by kernel_rfl) (fun _ _ _ h => h) (Or.inl ⟨by rfl, ?_⟩) (by assumption) ?_
      rotate_left
      · intro w hSw; (try dsimp only at hSw); go_simp <;> with_reducible rfl
      try simp only [Act.put, List.setIfInBounds_toArray, List.set_cons_zero, List.set_cons_succ]
      refine wpAnyH_ready (rs := [2]) (by kernel_rfl) (by simp) ?_
      refine AllReadyH.cons (o := ⟨some 39, _, _, _, _, _⟩) rfl (fun K hK => ?_) AllReadyH.nil
      go_simp
      refine (schedule_n S p q 3 2500 bs _ hpl (by decide) (by decide) (by decide) (HS.out.below (bgo BA.out (bnil wA).drew))).mono ?_; rintro e w2 ⟨v, rfl, ho⟩; have hl4 : (schedN bs 3 2500).length ≤ 2500 := (by have := schedN_len bs 3 2500; omega); have HLT := hid (schedN_lt bs (N := 3) (by decide) 2500); generalize schedN bs 3 2500 = all at *; obtain ⟨Al, cl, rfl, hcl, hcl2⟩ := ho.form; have HO := hid ho; clear ho; rw [show (nats all).length = all.length by simp] at *; unfold maxLen at hcl2; obtain ⟨NN, hN⟩ : ∃ NN, all.length = NN := ⟨_, rfl⟩; rw [hN] at HO hl4 hcl ⊢; have HN := hid hN; clear hN; have BS := hid (bgo (bnil wA).drew HO.out.below); obtain ⟨z0, z1, z2⟩ := cells3 BS.out y0 y1 y2
      go_wp2_with fail
      refine hK.out _ _ ?_ (fun hHeld => ?_)
      · (try dsimp only); (first | assumption | exact ⟨y0, y1, y2⟩ | exact ⟨z0, z1, z2⟩ | exact ⟨u0, u1, u2⟩)
      clear hK K
      try simp only [Act.put, List.setIfInBounds_toArray, List.set_cons_zero, List.set_cons_succ]
      refine wpAnyH_ready (rs := [3]) (by kernel_rfl) (by simp) ?_
      refine AllReadyH.cons (o := ⟨some 40, _, _, _, _, _⟩) rfl (fun K hK => ?_) AllReadyH.nil
      go_simp
      have HWS := hid (show Sl w2 1 AW 1 (ints ([0] : List Int)) from Sl.own (own_below HWA.out BS.out)); have HNE := hid (queue_play ⟨h1, h8⟩ (omach_qm (N := N) (off := 0) (calls := 45) (kinds := okinds 45) (by decide)) all).2.2; have HMB := hid (HMA.out.below BS.out); refine (ran_of AW (some ⟨Cb, 0, none⟩) (some ⟨T, 0, none⟩) Al 1 cW 2 2 3 3 NN cl (qordM N) all w2 (by decide) (by decide) (by decide) (by omega) hcl (HT.out.below (bgo BA.out BS.out)) HMB.out HWS.out HO.out.sl HLT.out HNE.out (play_fin _ all)).mono ?_; rintro e w3 hp3; obtain ⟨v3, rs, rfl, hrow, hrs, htold, b3⟩ := hp3; obtain ⟨A3, c3, rfl, hc3, hc3'⟩ := own_form hrow; obtain ⟨LD, hLD⟩ : ∃ LD, rs.length = LD := ⟨_, rfl⟩; rw [hLD] at hrow hc3 ⊢; have HD := hid (DsAt.mk hLD hrow htold); have HRS := hid hrs; have B3 := hid (bgo BS.out b3); clear hrow htold hrs b3 hLD; obtain ⟨u0, u1, u2⟩ := cells3 B3.out y0 y1 y2
      go_wp2_with fail
      refine hK.out _ _ ?_ (fun hHeld => ?_)
      · (try dsimp only); (first | assumption | exact ⟨y0, y1, y2⟩ | exact ⟨z0, z1, z2⟩ | exact ⟨u0, u1, u2⟩)
      clear hK K
      try simp only [Act.put, List.setIfInBounds_toArray, List.set_cons_zero, List.set_cons_succ]
      refine wpAnyH_take (i := 4) (oi := ⟨some 36, _, _, _, _, _⟩) (v := ?_) rfl (by kernel_rfl) (by kernel_rfl) (by kernel_rfl) (fun _ _ _ h => h) (Or.inl ⟨by rfl, ?_⟩) (by assumption) ?_
      rotate_left
      · intro w hSw; (try dsimp only at hSw); go_simp <;> with_reducible rfl
      try simp only [Act.put, List.setIfInBounds_toArray, List.set_cons_zero, List.set_cons_succ]
      refine wpAnyH_take (i := 5) (oi := ⟨some 41, _, _, _, _, _⟩) (v := ?_) rfl (by kernel_rfl) (by kernel_rfl) (by kernel_rfl) (fun _ _ _ h => h) (Or.inl ⟨by rfl, ?_⟩) (by assumption) ?_
      rotate_left
      · intro w hSw; (try dsimp only at hSw); go_simp <;> with_reducible rfl
      try simp only [Act.put, List.setIfInBounds_toArray, List.set_cons_zero, List.set_cons_succ]
      refine wpAnyH_take (i := 6) (oi := ⟨some 42, _, _, _, _, _⟩) (v := ?_) rfl (by kernel_rfl) (by kernel_rfl) (by kernel_rfl) (fun _ _ _ h => h) (Or.inl ⟨by rfl, ?_⟩) (by assumption) ?_
      rotate_left
      · intro w hSw; (try dsimp only at hSw); go_simp <;> with_reducible rfl
      try simp only [Act.put, List.setIfInBounds_toArray, List.set_cons_zero, List.set_cons_succ]
      refine wpAnyH_take (i := 7) (oi := ⟨some 10, _, _, _, _, _⟩) (v := ?_) rfl (by kernel_rfl) (by kernel_rfl) (by kernel_rfl) (fun _ _ _ h => h) (Or.inl ⟨by rfl, ?_⟩) (by assumption) ?_
      rotate_left
      · intro w hSw; (try dsimp only at hSw); go_simp <;> with_reducible rfl
      try simp only [Act.put, List.setIfInBounds_toArray, List.set_cons_zero, List.set_cons_succ]
      refine wpAnyH_take (i := 8) (oi := ⟨some 11, _, _, _, _, _⟩) (v := ?_) rfl (by kernel_rfl) (by kernel_rfl) (by kernel_rfl) (fun _ _ _ h => h) (Or.inl ⟨by rfl, ?_⟩) (by assumption) ?_
      rotate_left
      · intro w hSw; (try dsimp only at hSw); go_simp <;> with_reducible rfl
      try simp only [Act.put, List.setIfInBounds_toArray, List.set_cons_zero, List.set_cons_succ]
      refine wpAnyH_done (by kernel_rfl) ?_ _
      rotate_left
      have B03 := hid (bgo BA.out B3.out)
      have HM3 := hid (HMN.out.below B3.out)
      have HX3 := hid (HX0.out.below' B3.out)
      clear hHeld
      clear z0 z1 z2 u0 u1 u2 y0 y1 y2 HX0 HMA HWA BA HO HWS HMB BS HMN
      have HQ := hid (queue_order ⟨h1, h8⟩ all)
      rw [← HRS.out] at HQ
      clear HRS HNE
      unfold maxLen at hc3'
      go_wp2_with fail
      obtain ⟨bl, hbl⟩ : ∃ bl, w3.heap.size = bl := ⟨_, rfl⟩
      have R1 := hid ((blkN w3 3 #[.int .i64 (-1), .int .i64 (-1), .int .i64 (-1)] bl hbl).alloc (.cells zero64 62))
      have R2 := hid (blkN (w3.alloc (.cells #[.int .i64 (-1), .int .i64 (-1), .int .i64 (-1)] 3)) 62 zero64 (bl + 1) (by simp [hbl]))
      have BL := hid (bnew (bnew (bnil w3) (.cells #[.int .i64 (-1), .int .i64 (-1), .int .i64 (-1)] 3)) (.cells zero64 62))
      have HBL := hid (show w3.heap.size ≤ bl by omega)
      obtain ⟨ds, hds⟩ : ∃ ds, rs.map (·.1) = ds := ⟨_, rfl⟩
      have HDS := hid hds
      rw [hds] at HQ
      clear hds
      go_wp2_with fail
      rw [hbl]
      clear hbl
      generalize World.alloc (World.alloc w3 _) _ = w4 at *
      obtain ⟨bz, hbz⟩ : ∃ bz, bl + 1 = bz := ⟨_, rfl⟩
      rw [hbz] at R2 ⊢
      have hne : bl ≠ bz := by omega
      have HBZ := hid (show w3.heap.size ≤ bz by have := HBL.out; omega)
      clear hbz
      go_loopw [14] (fun i wr => ∃ k : Nat, k ≤ LD ∧ i = .int .i64 k ∧ Hid (Blk wr bl 3 #[.int .i64 (lastV (tkn ds k) 0), .int .i64 (lastV (tkn ds k) 1), .int .i64 (lastV (tkn ds k) 2)]) ∧ Hid (Blk wr bz 62 (arrN (cntF (tkn ds k)) 64)) ∧ Hid (Below w3.heap.size w3 wr)) (fun i _ => LD - (intOf i).toNat)
      case atStart => exact ⟨0, Nat.zero_le _, rfl, hid R1.out, hid (by have h := R2.out; rw [zero64_eq] at h; exact h), BL⟩
      case round =>
        clear R1 R2 BL
        obtain ⟨k, hk, rfl, HL, HC, BR⟩ := hrel
        by_cases hlt : k < LD
        · have j1 : (k : Int) < (LD : Int) := by omega
          obtain ⟨b9, d, At, ct, rfl, hd, lt9, u0, u1, u2, u3, u4, ut⟩ := (HD.out.below BR.out).at_ hlt
          rw [HDS.out] at hd
          have HDk := hid hd
          obtain ⟨htn, hc15⟩ := HQ.out.call k d hd
          have HUT := hid ut
          obtain ⟨bx, hbx⟩ : ∃ bx, wr.heap.size = bx := ⟨_, rfl⟩
          have XB0 := hid (blkN wr 46 #[.int .i64 (d.b : Int), .int .i64 (eI d.e), .int .i64 (d.t : Int), .int .i64 (d.c : Int), .slice At d.told.length ct] bx hbx)
          have BN0 := hid (bnew (bnil wr) (.cells #[.int .i64 (d.b : Int), .int .i64 (eI d.e), .int .i64 (d.t : Int), .int .i64 (d.c : Int), .slice At d.told.length ct] 46))
          clear hd ut
          go_upto_region 17 with fail
          generalize World.alloc wr _ = wq at *
          have BQ := hid (bgo BR.out BN0.out)
          have HLq := hid (HL.out.below' BN0.out)
          have HCq := hid (HC.out.below' BN0.out)
          have HUq := hid (own_below HUT.out BN0.out)
          clear hbx BN0 u0 u1 u2 u3 u4 lt9 HL HC HUT
          have x1 : wq.cell? ⟨bx, 1, none⟩ = some (.int .i64 (eI d.e)) := XB0.out.cell 1
          have x2 : wq.cell? ⟨bx, 2, none⟩ = some (.int .i64 (d.t : Int)) := XB0.out.cell 2
          have x3 : wq.cell? ⟨bx, 3, none⟩ = some (.int .i64 (d.c : Int)) := XB0.out.cell 3
          obtain ⟨bt, cth, _, t0, t1, _, _⟩ := o_codeAt (HM3.out.below BQ.out) htn (show (oths 0 (okinds 45) 45 d.t)[d.c]? = some (if d.t = 2 then ⟨1, []⟩ else ⟨0, [((3 * d.c + d.t : Nat) : Int)]⟩) by
            rw [oths_at _ _ _ _ _ htn, if_pos (by omega), ocall_ord (by omega)]
            by_cases e : d.t = 2
            · rw [if_pos e, if_pos (by omega)]
            · rw [if_neg e, if_neg (by omega)])
          rw [show (oths 0 (okinds 45) 45 d.t).length = 15 by rw [oths_len _ _ _ _ htn]; omega] at t0
          have y2 : wq.cell? ⟨X, 2, none⟩ = some (.slice (some ⟨T, 0, none⟩) 3 3) := (HX3.out.below' BQ.out).cell 2
          have itn : (d.t : Int) < 3 := by omega
          have icL : (d.c : Int) < 15 := by omega
          by_cases ht2 : d.t = 2
          · rw [if_pos ht2] at t1
            have t1 : wq.cell? ⟨bt, d.c * 2, none⟩ = some (.int .i64 1) := t1
            cases he : d.e with
            | none =>
              have e1 : eI d.e = -1 := by rw [he]; rfl
              rw [e1] at x1
              have HNX := hid (tkn_none HDk.out (by unfold tkOf; rw [if_pos ht2, he]))
              clear e1 he ht2
              go_quiet (fail)
              have BQ1 := hid (below_drewN BQ.out nq)
              have HL1 := hid (HLq.out.below' (below_drewN (bnil wq) nq)); have HC1 := hid (HCq.out.below' (below_drewN (bnil wq) nq))
              go_wp2_with fail
              go_roundw
              case rel => exact ⟨k + 1, by omega, by go_num, by rw [HNX.out]; exact HL1, by rw [HNX.out]; exact HC1, BQ1⟩
              case measure => simp [intOf]; omega
            | some e =>
              have e1 : eI d.e = (e : Int) := by rw [he]; rfl
              rw [e1] at x1
              obtain ⟨v, htd, hv⟩ := HQ.out.told k d e HDk.out ht2 he
              have hTK := show tkOf d = if v = -1 then none else some v by unfold tkOf; rw [if_pos ht2, he, htd]
              have HTKv := hid hTK
              obtain ⟨bo, rfl, hbo, o0⟩ := told_one HUq.out htd
              have en : ((e : Int) == -1) = false := beqF (by omega)
              have x4 : wq.cell? ⟨bx, 4, none⟩ = some (.slice (some ⟨bo, 0, none⟩) d.told.length ct) := XB0.out.cell 4
              rw [htd] at x4
              have x4 : wq.cell? ⟨bx, 4, none⟩ = some (.slice (some ⟨bo, 0, none⟩) 1 ct) := x4
              have hvb : -1 ≤ v ∧ v ≤ 44 := by rcases hv with h | h <;> omega
              have HVV := hid hv
              clear e1 he hTK hv htd ht2
              go_quiet (fail)
              have b0 := below_drewN (bnil wq) nq
              have BQ1 := hid (below_drewN BQ.out nq)
              have HL1 := hid (HLq.out.below' b0); have HC1 := hid (HCq.out.below' b0)
              have x4 := cell_below b0 x4
              have o0 := cell_below b0 o0
              clear x1 x2 x3 t0 t1 y2 b0 BQ XB0 HLq HCq HUq BR
              generalize World.drewN wq nq = wp at *
              have d1 : decide (v < -1) = false := decide_eq_false (by omega)
              have d2 : decide (44 < v) = false := decide_eq_false (by omega)
              have i1 : ¬ (v < -1) := by omega
              have i2 : ¬ (44 < v) := by omega
              by_cases hv1 : v = -1
              · subst hv1
                have HNX := hid (tkn_none HDk.out (by rw [HTKv.out]; rfl))
                go_wp2_with fail
                go_roundw
                case rel => exact ⟨k + 1, by omega, by go_num, by rw [HNX.out]; exact HL1, by rw [HNX.out]; exact HC1, BQ1⟩
                case measure => simp [intOf]; omega
              · have hv9 : 0 ≤ v ∧ v ≤ 44 ∧ v % 3 ≠ 2 := by rcases HVV.out with h | h; exact absurd h hv1; exact h
                obtain ⟨V, rfl⟩ : ∃ V : Nat, v = (V : Int) := ⟨v.toNat, by omega⟩
                have HSOME := hid (show tkOf d = some (V : Int) by rw [HTKv.out, if_neg hv1])
                have HUP := hid (tkn_up HQ.out HDk.out HSOME.out)
                have HNX := hid (show tkn ds (k + 1) = tkn ds k ++ [(V : Int)] by rw [tkn_next HDk.out, HSOME.out]; rfl)
                obtain ⟨r, hr⟩ : ∃ r, V % 3 = r := ⟨_, rfl⟩
                have em : (V : Int).tmod 3 = (r : Int) := by rw [Int.tmod_eq_emod_of_nonneg (by omega), ← hr]; omega
                have hr2 : ¬ ((r : Int) = 2) := by omega
                have hr3 : (r : Int) < 3 := by omega
                have hVI : (V : Int) < 64 := by omega
                have hlast := lastV_lt (T := tkn ds k) (v := (V : Int)) (by omega) HUP.out
                have hr4 : (V : Int) % 3 = (r : Int) := by omega
                rw [hr4] at hlast
                have HR3 := hid hr
                have c0 : wp.cell? ⟨bz, V, none⟩ = some (.int .i64 0) := by
                  rw [HC1.out.cell V, arrN_at _ (by omega)]
                  unfold cntF
                  rw [List.count_eq_zero.2 fun hm => (HUP.out _ hm).1 rfl]; rfl
                have f0 : wp.frozen? ⟨bz, V, none⟩ = false := HC1.out.frozen V
                have hl2 : wp.cell? ⟨bl, r, none⟩ = some (.int .i64 (lastV (tkn ds k) (r : Int))) := by
                  rw [HL1.out.cell r]
                  rcases (show r = 0 ∨ r = 1 ∨ r = 2 by omega) with rfl | rfl | rfl <;> rfl
                have fl2 : wp.frozen? ⟨bl, r, none⟩ = false := HL1.out.frozen r
                have g3 : ¬ ((V : Int) ≤ lastV (tkn ds k) (r : Int)) := by omega
                obtain ⟨LV, hLV⟩ : ∃ LV, lastV (tkn ds k) (r : Int) = LV := ⟨_, rfl⟩
                rw [hLV] at hl2 hlast g3
                have hne2 : bz ≠ bl := fun e => hne e.symm
                clear hv1 hv9 hvb d1 d2 hr4 hr hLV
                go_wp2_with fail
                have HC2 := hid (show Blk (wp.setCell ⟨bz, V, none⟩ (.int .i64 1)) bz 62 (arrN (cntF (tkn ds k ++ [(V : Int)])) 64) by
                  have h := HC1.out.set_ V (.int .i64 1)
                  rw [arrN_set, cntF_upd HUP.out] at h; exact h)
                have HL2 := hid (HL1.out.far (p := ⟨bz, V, none⟩) hne (.int .i64 1))
                have BQ2 := hid (BQ1.out.setCell (p := ⟨bz, V, none⟩) HBZ.out (.int .i64 1))
                have HC3 := hid (HC2.out.far (p := ⟨bl, V % 3, none⟩) hne2 (.int .i64 (V : Int)))
                have HL3 := hid (last_set (v := V) HL2.out)
                have BQ3 := hid (BQ2.out.setCell (p := ⟨bl, V % 3, none⟩) HBL.out (.int .i64 (V : Int)))
                rw [HR3.out] at HC3 HL3 BQ3
                rw [← HNX.out] at HC3 HL3
                exact ⟨⟨k + 1, by omega, by go_num, HL3, HC3, BQ3⟩, by simp [intOf]; omega⟩
          · rw [if_neg ht2] at t1
            have t1 : wq.cell? ⟨bt, d.c * 2, none⟩ = some (.int .i64 0) := t1
            have HNX := hid (tkn_none HDk.out (by unfold tkOf; rw [if_neg ht2]))
            clear ht2
            go_quiet (fail)
            have BQ1 := hid (below_drewN BQ.out nq)
            have HL1 := hid (HLq.out.below' (below_drewN (bnil wq) nq)); have HC1 := hid (HCq.out.below' (below_drewN (bnil wq) nq))
            go_wp2_with fail
            go_roundw
            case rel => exact ⟨k + 1, by omega, by go_num, by rw [HNX.out]; exact HL1, by rw [HNX.out]; exact HC1, BQ1⟩
            case measure => simp [intOf]; omega
        · obtain rfl : k = LD := by omega
          have j1 : ¬ (k : Int) < (k : Int) := by omega
          go_wp2_with fail
          go_ret
          exact ⟨rfl, bgo B03.out BR.out⟩
end Go.Proofs.YtiinnkdhccgelaaDoor
