/-
  tags.Select of an index told by numbers, by matchers that may be: its walk.
-/
import Derived.Test.YtfdgklfkpofkeaaTgBoth
namespace Go.Proofs.Ytfdgklfkpofkeaa
open Go.RowKit Go.Maps
set_option linter.unusedVariables false

theorem tags_bothL (A B : Option Addr) (n m c d : Nat) (l k : List Nat) (b : Bool) (w : World) (hn : n ≤ 100) (hm : m ≤ 100) (hA : Sl w 1 A n (ints (castL l))) (hB : Sl w 1 B m (ints (castL k))) (hl : l.length = n) (hk : k.length = m) (ha : k.Pairwise fun a b => a < b) (y : List Nat) (hy : (l.filter fun x => decide (x ∈ k) == b) = y) :
    Calls Try.prog 35 #[.slice A n c, .slice B m d, .bool b] w fun e w' => ∃ A' c', e = .returned (.slice A' y.length c') ∧ Ow w w' 3 1 gI (.slice A' y.length c') (castL y) := by
  subst hy; exact tags_both A B n m c d l k b w hn hm hA hB hl hk ha
/-- a matcher -/
structure VMatch where
  kd : Nat
  t : Nat × Nat
def MOk (m : VMatch) : Prop := 1 ≤ m.kd ∧ m.kd ≤ 4 ∧ TOk m.t ∧ (m.kd ≤ 2 → m.t.2 ≠ 0) ∧ (3 ≤ m.kd → m.t.2 = 0)
def VMatch.wth (m : VMatch) : Bool := m.kd == 1 || m.kd == 3
def VMatch.is (m : VMatch) (x : Nat) : Bool := hasT x m.t == m.wth
abbrev gM : VMatch → List Value := fun m => [.int .i64 (m.kd : Int), .string (kS m.t.1), .string (vS m.t.2)]
theorem gM_one (m : VMatch) : ∀ u ∈ gM m, u.oneCell' = true := by intro u hu; simp at hu; rcases hu with rfl | rfl | rfl <;> rfl
/-- which places are meant -/
def selM (ns : List Nat) (ms : List VMatch) : List Nat := (List.range ns.length).filter fun q => ms.all fun m => m.is (ns.getD q 0)
theorem selM_snoc (ns : List Nat) (ms : List VMatch) (m : VMatch) : selM ns (ms ++ [m]) = (selM ns ms).filter fun x => decide (x ∈ (List.range ns.length).filter fun z => hasT (ns.getD z 0) m.t) == m.wth := by
  unfold selM
  rw [List.filter_filter]
  apply List.filter_congr
  intro x hx
  have hmem : decide (x ∈ (List.range ns.length).filter fun z => hasT (ns.getD z 0) m.t) = hasT (ns.getD x 0) m.t := by
    rw [Bool.eq_iff_iff, decide_eq_true_eq, List.mem_filter]
    exact ⟨fun h => h.2, fun h => ⟨hx, h⟩⟩
  rw [hmem, List.all_append]
  simp [VMatch.is, Bool.and_comm]
theorem selM_len (ns : List Nat) (ms : List VMatch) : (selM ns ms).length ≤ ns.length := by unfold selM; exact Nat.le_trans (List.length_filter_le _ _) (by simp)
theorem post_asc (ns : List Nat) (n : Nat) (t : Nat × Nat) : ((List.range n).filter fun z => hasT (ns.getD z 0) t).Pairwise fun a b => a < b := List.Pairwise.filter _ List.pairwise_lt_range
theorem match_at {w : World} {A : Option Addr} {n : Nat} {l : List VMatch} (h : Sl w 3 A n (l.flatMap gM)) (hl : l.length = n) {k : Nat} (hk : k < n) :
    ∃ ad m, A = some ad ∧ l[k]? = some m ∧ w.cell? (ad.add (k * 3)) = some (.int .i64 (m.kd : Int)) ∧ w.cell? ⟨(ad.add (k * 3)).block, (ad.add (k * 3)).off + 1, none⟩ = some (.string (kS m.t.1)) ∧ w.cell? ⟨(ad.add (k * 3)).block, (ad.add (k * 3)).off + 2, none⟩ = some (.string (vS m.t.2)) := by
  obtain ⟨ad, e, hc⟩ := h.2 (by omega)
  have ha : l[k]? = some l[k] := List.getElem?_eq_getElem (by omega)
  have F := fun (j : Nat) (hj : j < 3) (u : Value) (hu : (gM l[k])[j]? = some u) => hc (k * 3 + j) u (by rw [flatMap_at gM 3 (fun _ => rfl) l k j _ ha hj]; exact hu)
  exact ⟨ad, l[k], e, ha, F 0 (by decide) _ rfl, cell_next (by decide) (F 1 (by decide) _ rfl), cell_next (by decide) (F 2 (by decide) _ rfl)⟩
set_option maxRecDepth 100000 in
set_option maxHeartbeats 4000000 in
theorem fault_of (m : VMatch) (w : World) (h : MOk m) : Calls Try.prog 34 #[.agg #[.int .i64 (m.kd : Int), .string (kS m.t.1), .string (vS m.t.2)]] w fun e w' => e = .returned (.int .i64 0) ∧ Below w.heap.size w w' := by
  obtain ⟨kd, k, v⟩ := m
  obtain ⟨h1, h2, ⟨h3, h4⟩, h5, h6⟩ := h
  have hk : kd = 1 ∨ kd = 2 ∨ kd = 3 ∨ kd = 4 := by have : 1 ≤ kd := h1; have : kd ≤ 4 := h2; omega
  rcases hk with rfl | rfl | rfl | rfl
  case' inl => have HV := hid (show v ≠ 0 from h5 (show (1 : Nat) ≤ 2 by decide))
  case' inr.inl => have HV := hid (show v ≠ 0 from h5 (show (2 : Nat) ≤ 2 by decide))
  case' inr.inr.inl => obtain rfl : v = 0 := h6 (show (3 : Nat) ≤ 3 by decide)
  case' inr.inr.inr => obtain rfl : v = 0 := h6 (show (3 : Nat) ≤ 4 by decide)
  case inl =>
    clear h1 h2 h3 h4 h5 h6
    have BX := hid (Blk.new w 45 #[.int .i64 ((1 : Nat) : Int), .string (kS k), .string (vS v)])
    have ZX := hid (bnew (bnil w) (.cells #[.int .i64 ((1 : Nat) : Int), .string (kS k), .string (vS v)] 45))
    go_enter Try.func34, Try.ntmps34
    go_wp2_with fail
    refine (name_of (kS k) _ (nam_k _)).mono ?_
    rintro e w1 ⟨rfl, z1⟩
    have x0 : w1.cell? ⟨w.heap.size, 0, none⟩ = some (.int .i64 1) := (BX.out.below' z1).cell 0
    have x1 : w1.cell? ⟨w.heap.size, 1, none⟩ = some (.string (kS k)) := (BX.out.below' z1).cell 1
    have x2 : w1.cell? ⟨w.heap.size, 2, none⟩ = some (.string (vS v)) := (BX.out.below' z1).cell 2
    have Z1 := hid (bgo ZX.out z1)
    clear z1
    go_wp2_with fail
    refine (name_of (vS v) _ (nam_v _ HV.out)).mono ?_
    rintro e w2 ⟨rfl, z2⟩
    have Z2 := hid (bgo Z1.out z2)
    clear z2 x0 x1 x2
    go_wp2_with fail
    go_ret
    exact ⟨rfl, Z2.out⟩
  case inr.inl =>
    clear h1 h2 h3 h4 h5 h6
    have BX := hid (Blk.new w 45 #[.int .i64 ((2 : Nat) : Int), .string (kS k), .string (vS v)])
    have ZX := hid (bnew (bnil w) (.cells #[.int .i64 ((2 : Nat) : Int), .string (kS k), .string (vS v)] 45))
    go_enter Try.func34, Try.ntmps34
    go_wp2_with fail
    refine (name_of (kS k) _ (nam_k _)).mono ?_
    rintro e w1 ⟨rfl, z1⟩
    have x0 : w1.cell? ⟨w.heap.size, 0, none⟩ = some (.int .i64 2) := (BX.out.below' z1).cell 0
    have x1 : w1.cell? ⟨w.heap.size, 1, none⟩ = some (.string (kS k)) := (BX.out.below' z1).cell 1
    have x2 : w1.cell? ⟨w.heap.size, 2, none⟩ = some (.string (vS v)) := (BX.out.below' z1).cell 2
    have Z1 := hid (bgo ZX.out z1)
    clear z1
    go_wp2_with fail
    refine (name_of (vS v) _ (nam_v _ HV.out)).mono ?_
    rintro e w2 ⟨rfl, z2⟩
    have Z2 := hid (bgo Z1.out z2)
    clear z2 x0 x1 x2
    go_wp2_with fail
    go_ret
    exact ⟨rfl, Z2.out⟩
  case inr.inr.inl =>
    clear h1 h2 h3 h4 h5 h6
    have BX := hid (Blk.new w 45 #[.int .i64 ((3 : Nat) : Int), .string (kS k), .string (vS 0)])
    have ZX := hid (bnew (bnil w) (.cells #[.int .i64 ((3 : Nat) : Int), .string (kS k), .string (vS 0)] 45))
    go_enter Try.func34, Try.ntmps34
    go_wp2_with fail
    refine (name_of (kS k) _ (nam_k _)).mono ?_
    rintro e w1 ⟨rfl, z1⟩
    have x0 : w1.cell? ⟨w.heap.size, 0, none⟩ = some (.int .i64 3) := (BX.out.below' z1).cell 0
    have x1 : w1.cell? ⟨w.heap.size, 1, none⟩ = some (.string (kS k)) := (BX.out.below' z1).cell 1
    have x2 : w1.cell? ⟨w.heap.size, 2, none⟩ = some (.string (vS 0)) := (BX.out.below' z1).cell 2
    have Z1 := hid (bgo ZX.out z1)
    clear z1
    rw [show vS 0 = ⟨#[]⟩ from rfl] at x2
    go_wp2_with fail
    go_ret
    exact ⟨rfl, Z1.out⟩
  case inr.inr.inr =>
    clear h1 h2 h3 h4 h5 h6
    have BX := hid (Blk.new w 45 #[.int .i64 ((4 : Nat) : Int), .string (kS k), .string (vS 0)])
    have ZX := hid (bnew (bnil w) (.cells #[.int .i64 ((4 : Nat) : Int), .string (kS k), .string (vS 0)] 45))
    go_enter Try.func34, Try.ntmps34
    go_wp2_with fail
    refine (name_of (kS k) _ (nam_k _)).mono ?_
    rintro e w1 ⟨rfl, z1⟩
    have x0 : w1.cell? ⟨w.heap.size, 0, none⟩ = some (.int .i64 4) := (BX.out.below' z1).cell 0
    have x1 : w1.cell? ⟨w.heap.size, 1, none⟩ = some (.string (kS k)) := (BX.out.below' z1).cell 1
    have x2 : w1.cell? ⟨w.heap.size, 2, none⟩ = some (.string (vS 0)) := (BX.out.below' z1).cell 2
    have Z1 := hid (bgo ZX.out z1)
    clear z1
    rw [show vS 0 = ⟨#[]⟩ from rfl] at x2
    go_wp2_with fail
    go_ret
    exact ⟨rfl, Z1.out⟩
set_option maxRecDepth 100000 in
set_option maxHeartbeats 16000000 in
theorem tags_select (A B : Option Addr) (n c m d : Nat) (ns : List Nat) (ms : List VMatch) (w : World) (hnc : n ≤ c) (h : SerAt w A n ns) (hm : m ≤ 8) (hB : Sl w 3 B m (ms.flatMap gM)) (hl : ms.length = m) (hok : ∀ x ∈ ms, MOk x) :
    Calls Try.prog 21 #[.slice A n c, .slice B m d] w fun e w' => ∃ A' c', e = .returned (.tuple #[.slice A' (selM ns ms).length c', .int .i64 0]) ∧ Below w.heap.size w w' ∧ Sl w' 1 A' (selM ns ms).length (ints (castL (selM ns ms))) := by
  have H := hid h; have HB := hid hB; have HL := hid hl; have HOK := hid hok
  have hn30 := h.most
  have hlen := h.len
  clear h hB hl hok
  have q8 : decide ((8 : Int) < (m : Int)) = false := by simp; omega
  go_enter Try.func21, Try.ntmps21
  go_wp2_with fail
  refine (tags_may A n c ns _ hnc H.out).mono ?_
  rintro e w1 ⟨rfl, z1⟩
  have Z1 := hid z1
  clear z1
  go_wp2_with fail
  refine (tags_index A n c ns _ (H.out.below Z1.out)).mono ?_
  rintro e w2 ⟨mb, rfl, hix, z2⟩
  have HIX := hid hix
  have Z2 := hid (bgo Z1.out z2)
  clear hix z2
  go_wp2_with fail
  go_loopw [7, 24] (fun v q wr => ∃ (i : Nat) (A' : Option Addr) (c' : Nat), i ≤ n ∧ v = .slice A' i c' ∧ q = .int .i64 i ∧ Hid (Ow w2 wr 3 1 gI (.slice A' i c') (castL (List.range i)))) (fun _ q _ => n - (intOf q).toNat)
  case atStart => exact ⟨0, none, 0, Nat.zero_le _, rfl, rfl, hid (Ow.nil w2 _ 1 gI)⟩
  case round =>
    obtain ⟨i, A', c', hi, rfl, rfl, HR⟩ := hrel
    by_cases hlt : i < n
    · have i1 : (i : Int) < (n : Int) := by omega
      obtain ⟨y, hy⟩ : ∃ y, castL (List.range i) ++ [(i : Int)] = y := ⟨_, rfl⟩
      have HY := hid hy
      have HYE := hid (show y = castL (List.range (i + 1)) from by rw [← hy, List.range_succ]; exact castL_app _ i)
      have HYL := hid (show y.length = i + 1 from by rw [HYE.out, castL_len, List.length_range])
      clear hy
      go_wp2_with (at_builtin; refine wpList_appY elmI gI_one rfl (.tmp 27) (.tmp 29) rfl (.slice A' i c') (castL (List.range i)) rfl (HR.out.alloc _) [(i : Int)] y HY rfl (Sl.fresh' _ #[_] 3 1 1 _ rfl rfl) rfl (by rw [HYL.out]; simp only [maxLen]; omega) (by rw [HYL.out]; omega) ?_; intro A7 c7 w7 hc7 hc8 O7 G7 _)
      rw [HYL.out] at O7 ⊢
      have O8 := hid (show Ow w2 w7 3 1 gI (.slice A7 (i + 1) c7) (castL (List.range (i + 1))) from by rw [← HYE.out]; exact O7.out)
      clear G7 O7
      go_roundw
      case rel => exact ⟨i + 1, A7, c7, by omega, rfl, by go_num, O8⟩
      case measure => simp [intOf]; omega
    · obtain rfl : i = n := by omega
      obtain ⟨wo, hwo⟩ : ∃ wo, wo = wr := ⟨_, rfl⟩
      subst hwo
      have HSL0 := hid (show Below w.heap.size w wo ∧ Sl wo 1 A' (selM ns []).length (ints (castL (selM ns []))) ∧ Below wo.heap.size wo wo from by
        have h1 : selM ns [] = List.range i := by unfold selM; rw [hlen]; simp
        rw [h1, List.length_range]
        exact ⟨bgo Z2.out HR.out.below, HR.out.sl, bnil wo⟩)
      have HLZ := hid (show Value.slice A' i c' = Value.slice A' (selM ns (ms.take 0)).length c' from by
        have h1 : selM ns (ms.take 0) = List.range i := by unfold selM; rw [hlen, List.take_zero]; simp
        rw [h1, List.length_range])
      have HIX2 := hid (HIX.out.below HR.out.below)
      have HB2 := hid (HB.out.below HSL0.out.1)
      go_upto_region 12 with fail
      rw [HLZ.out]
      go_wp2_with fail
      go_loopw [7, 34] (fun v qv wr => ∃ (q : Nat) (A' : Option Addr) (c' : Nat), q ≤ m ∧ v = .slice A' (selM ns (ms.take q)).length c' ∧ qv = .int .i64 q ∧ Hid (Below w.heap.size w wr ∧ Sl wr 1 A' (selM ns (ms.take q)).length (ints (castL (selM ns (ms.take q)))) ∧ Below wo.heap.size wo wr)) (fun _ q _ => m - (intOf q).toNat)
      case atStart => exact ⟨0, A', c', Nat.zero_le _, rfl, rfl, HSL0⟩
      case round =>
        clear HSL0 HLZ
        obtain ⟨q, A', c', hq, rfl, rfl, HS0⟩ := hrel
        by_cases hlt2 : q < m
        · obtain ⟨ad, M, rfl, hM, c0, c1, c2⟩ := match_at (HB.out.below HS0.out.1) HL.out hlt2
          have i2 : (q : Int) < (m : Int) := by omega
          have HMO := hid (HOK.out M (List.mem_of_getElem? hM))
          have hnext := take_next hM
          have HNXT := hid (show ((selM ns (ms.take q)).filter fun x : Nat => decide (x ∈ (List.range i).filter fun z => hasT (ns.getD z 0) M.t) == M.wth) = selM ns (ms.take (q + 1)) from by rw [hnext, selM_snoc, hlen])
          clear hM hnext
          obtain ⟨W7, hW7⟩ : ∃ W7, wr.alloc (.cells #[.int .i64 (M.kd : Int), .string (kS M.t.1), .string (vS M.t.2)] 45) = W7 := ⟨_, rfl⟩
          obtain ⟨X, hX⟩ : ∃ X, wr.heap.size = X := ⟨_, rfl⟩
          have HW7 := hid hW7
          have HXX := hid hX
          have B7 := hid (show Blk W7 X 45 #[.int .i64 (M.kd : Int), .string (kS M.t.1), .string (vS M.t.2)] by rw [← hW7, ← hX]; exact Blk.new _ _ _)
          have Z7 := hid (show Below wr.heap.size wr W7 by rw [← hW7]; exact bnew (bnil wr) _)
          clear hW7 hX
          go_upto_region 15 with fail
          rw [HW7.out]
          simp only [HXX.out]
          clear c0 c1 c2
          have y0 : W7.cell? ⟨X, 0, none⟩ = some (.int .i64 (M.kd : Int)) := B7.out.cell 0
          have y1 : W7.cell? ⟨X, 1, none⟩ = some (.string (kS M.t.1)) := B7.out.cell 1
          have y2 : W7.cell? ⟨X, 2, none⟩ = some (.string (vS M.t.2)) := B7.out.cell 2
          go_wp2_with fail
          refine (fault_of M _ HMO.out).mono ?_
          rintro e w8 ⟨rfl, z8⟩
          have Z8 := hid (bgo Z7.out z8)
          have HZ7 := hid (bgo HS0.out.1 Z8.out)
          have B8 := hid (B7.out.below' z8)
          have HIX8 := hid (HIX2.out.below (bgo HS0.out.2.2 Z8.out))
          clear z8 y0 y1 y2
          obtain ⟨Nx, fx, hmx, hgx⟩ := HIX8.out
          obtain ⟨kl, hkl⟩ := keyT HMO.out.2.2.1
          obtain ⟨Ap, np, cp, hfx, hsp⟩ := hgx M.t HMO.out.2.2.1 kl hkl
          rw [hlen] at hsp
          have hnpl : ((List.range i).filter fun z => hasT (ns.getD z 0) M.t).length = np := by have := hsp.leni; rwa [castL_len] at this
          have hnp : np ≤ 100 := by rw [← hnpl]; exact Nat.le_trans (List.length_filter_le _ _) (by simp; omega)
          have hsl : (selM ns (ms.take q)).length ≤ 100 := Nat.le_trans (selM_len _ _) (by omega)
          have HNP := hid hnp
          have HSL := hid hsl
          have HPL := hid hnpl
          have HPS := hid hsp
          have HPA := hid (post_asc ns i M.t)
          have HSA := hid (HS0.out.2.1.below Z8.out)
          have HZO := hid (bgo HS0.out.2.2 Z8.out)
          have HS18 := hid (fun w' (hb : Below w8.heap.size w8 w') => show w'.cell? ⟨X, 0, none⟩ = some (.int .i64 (M.kd : Int)) ∧ w'.cell? ⟨X, 1, none⟩ = some (.string (kS M.t.1)) ∧ w'.cell? ⟨X, 2, none⟩ = some (.string (vS M.t.2)) ∧ (Instr.lookup 88 (.map (some mb)) (tagV M.t) false).run Try.prog w' = .ok (.slice Ap np cp) w' from
            ⟨(B8.out.below' hb).cell 0, (B8.out.below' hb).cell 1, (B8.out.below' hb).cell 2, by have h := (hmx.below hb).look kT Try.underlying88 (zeroI w') hkl; rw [hfx] at h; exact h⟩)
          clear hmx hgx hfx hsp hnpl hnp hsl hkl
          have hkk : M.kd = 1 ∨ M.kd = 2 ∨ M.kd = 3 ∨ M.kd = 4 := by have := HMO.out.1; have := HMO.out.2.1; omega
          have HKS := hid hkk
          clear hkk
          rcases HKS.out with hk | hk | hk | hk
          · have HKD9 := hid hk
            have HKD := hid (show (M.kd : Int) = 1 from by rw [hk]; rfl)
            clear hk
            simp only [HKD.out] at HS18
            have s0 := HS18.out _ (bnil _)
            have HWTH := hid (show (fun x : Nat => decide (x ∈ (List.range i).filter fun z => hasT (ns.getD z 0) M.t) == true) = (fun x : Nat => decide (x ∈ (List.range i).filter fun z => hasT (ns.getD z 0) M.t) == M.wth) from by unfold VMatch.wth; rw [HKD9.out]; rfl)
            have HYY := hid (show ((selM ns (ms.take q)).filter fun x : Nat => decide (x ∈ (List.range i).filter fun z => hasT (ns.getD z 0) M.t) == true) = selM ns (ms.take (q + 1)) from by rw [HWTH.out]; exact HNXT.out)
            clear HS0 HWTH HNXT
            go_upto_region 18 with fail
            refine wp_region_held_drew (S := (fun w' => w'.cell? ⟨X, 0, none⟩ = some (.int .i64 1) ∧ w'.cell? ⟨X, 1, none⟩ = some (.string (kS M.t.1)) ∧ w'.cell? ⟨X, 2, none⟩ = some (.string (vS M.t.2)) ∧ (Instr.lookup 88 (.map (some mb)) (tagV M.t) false).run Try.prog w' = .ok (.slice Ap np cp) w')) (by kernel_rfl) ?_ (fun hHeld => ?_)
            · (try dsimp only); first | assumption | exact HS18.out _ (bnil _).drew | exact HS18.out _ Z5.out
            refine wpAnyH_take (i := 0) (oi := ⟨some 43, _, _, _, _, _⟩) (v := ?_) rfl (by kernel_rfl) (by kernel_rfl) (by kernel_rfl) (fun _ _ _ h => h) (Or.inl ⟨by rfl, ?_⟩) (by assumption) ?_
            rotate_left
            · intro w hSw; (try dsimp only at hSw); go_simp <;> with_reducible rfl
            try simp only [Act.put, List.setIfInBounds_toArray, List.set_cons_zero, List.set_cons_succ]
            refine wpAnyH_take (i := 1) (oi := ⟨some 44, _, _, _, _, _⟩) (v := ?_) rfl (by kernel_rfl) (by kernel_rfl) (by kernel_rfl) (fun _ _ _ h => h) (Or.inl ⟨by rfl, ?_⟩) (by assumption) ?_
            rotate_left
            · intro w hSw; (try dsimp only at hSw); go_simp <;> with_reducible rfl
            try simp only [Act.put, List.setIfInBounds_toArray, List.set_cons_zero, List.set_cons_succ]
            refine wpAnyH_take (i := 2) (oi := ⟨some 45, _, _, _, _, _⟩) (v := ?_) rfl (by kernel_rfl) (by kernel_rfl) (by kernel_rfl) (fun _ _ _ h => h) (Or.inl ⟨by rfl, ?_⟩) (by assumption) ?_
            rotate_left
            · intro w hSw; (try dsimp only at hSw); go_simp <;> with_reducible rfl
            try simp only [Act.put, List.setIfInBounds_toArray, List.set_cons_zero, List.set_cons_succ]
            refine wpAnyH_take (i := 3) (oi := ⟨some 46, _, _, _, _, _⟩) (v := ?_) rfl (by kernel_rfl) (by kernel_rfl) (by kernel_rfl) (fun _ _ _ h => h) (Or.inl ⟨by rfl, ?_⟩) (by assumption) ?_
            rotate_left
            · intro w hSw; (try dsimp only at hSw); go_simp <;> with_reducible rfl
            try simp only [Act.put, List.setIfInBounds_toArray, List.set_cons_zero, List.set_cons_succ]
            refine wpAnyH_take (i := 4) (oi := ⟨some 47, _, _, _, _, _⟩) (v := ?_) rfl (by kernel_rfl) (by kernel_rfl) (by kernel_rfl) (fun _ _ _ h => h) (Or.inl ⟨by rfl, ?_⟩) (by assumption) ?_
            rotate_left
            · intro w hSw; (try dsimp only at hSw); go_simp <;> with_reducible rfl
            try simp only [Act.put, List.setIfInBounds_toArray, List.set_cons_zero, List.set_cons_succ]
            refine wpAnyH_take (i := 5) (oi := ⟨some 48, _, _, _, _, _⟩) (v := ?_) rfl (by kernel_rfl) (by kernel_rfl) (by kernel_rfl) (fun _ _ _ h => h) (Or.inl ⟨by rfl, ?_⟩) (by assumption) ?_
            rotate_left
            · intro w hSw; (try dsimp only at hSw); go_simp <;> with_reducible rfl
            try simp only [Act.put, List.setIfInBounds_toArray, List.set_cons_zero, List.set_cons_succ]
            refine wpAnyH_take (i := 6) (oi := ⟨some 49, _, _, _, _, _⟩) (v := ?_) rfl (by kernel_rfl) (by kernel_rfl) (by kernel_rfl) (fun _ _ _ h => h) (Or.inl ⟨by rfl, ?_⟩) (by assumption) ?_
            rotate_left
            · intro w hSw; (try dsimp only at hSw); go_simp <;> with_reducible rfl
            try simp only [Act.put, List.setIfInBounds_toArray, List.set_cons_zero, List.set_cons_succ]
            refine wpAnyH_take (i := 7) (oi := ⟨some 50, _, _, _, _, _⟩) (v := ?_) rfl (by kernel_rfl) (by kernel_rfl) (by kernel_rfl) (fun _ _ _ h => h) (Or.inl ⟨by rfl, ?_⟩) (by assumption) ?_
            rotate_left
            · intro w hSw; (try dsimp only at hSw); go_simp <;> with_reducible rfl
            try simp only [Act.put, List.setIfInBounds_toArray, List.set_cons_zero, List.set_cons_succ]
            refine wpAnyH_take (i := 8) (oi := ⟨some 51, _, _, _, _, _⟩) (v := ?_) rfl (by kernel_rfl) (by kernel_rfl) (by kernel_rfl) (fun _ _ _ h => h) (Or.inl ⟨by rfl, ?_⟩) (by assumption) ?_
            rotate_left
            · intro w hSw; (try dsimp only at hSw); go_simp <;> with_reducible rfl
            try simp only [Act.put, List.setIfInBounds_toArray, List.set_cons_zero, List.set_cons_succ]
            refine wpAnyH_take (i := 9) (oi := ⟨some 52, _, _, _, _, _⟩) (v := undef) rfl (by kernel_rfl) (by kernel_rfl) (by kernel_rfl) (fun _ _ _ h => h) (Or.inr ⟨by rfl, rfl⟩) (by assumption) ?_
            try simp only [Act.put, List.setIfInBounds_toArray, List.set_cons_zero, List.set_cons_succ]
            refine wpAnyH_take (i := 10) (oi := ⟨some 53, _, _, _, _, _⟩) (v := undef) rfl (by kernel_rfl) (by kernel_rfl) (by kernel_rfl) (fun _ _ _ h => h) (Or.inr ⟨by rfl, rfl⟩) (by assumption) ?_
            try simp only [Act.put, List.setIfInBounds_toArray, List.set_cons_zero, List.set_cons_succ]
            refine wpAnyH_take (i := 11) (oi := ⟨some 54, _, _, _, _, _⟩) (v := undef) rfl (by kernel_rfl) (by kernel_rfl) (by kernel_rfl) (fun _ _ _ h => h) (Or.inr ⟨by rfl, rfl⟩) (by assumption) ?_
            try simp only [Act.put, List.setIfInBounds_toArray, List.set_cons_zero, List.set_cons_succ]
            refine wpAnyH_take (i := 12) (oi := ⟨some 55, _, _, _, _, _⟩) (v := ?_) rfl (by kernel_rfl) (by kernel_rfl) (by kernel_rfl) (fun _ _ _ h => h) (Or.inl ⟨by rfl, ?_⟩) (by assumption) ?_
            rotate_left
            · intro w hSw; (try dsimp only at hSw); go_simp <;> with_reducible rfl
            try simp only [Act.put, List.setIfInBounds_toArray, List.set_cons_zero, List.set_cons_succ]
            refine wpAnyH_ready (rs := [13]) (by kernel_rfl) (by simp) ?_
            refine AllReadyH.cons (o := ⟨some 56, _, _, _, _, _⟩) rfl (fun K hK => ?_) AllReadyH.nil
            go_simp
            (refine (tags_bothL A' Ap _ np c' cp (selM ns (ms.take q)) _ true _ HSL.out HNP.out (HSA.out.below (bnil _).drew) (HPS.out.below (bnil _).drew) rfl HPL.out HPA.out (selM ns (ms.take (q + 1))) HYY.out).mono ?_; rintro e w5 ⟨A5, c5, rfl, o5⟩; have Z5 := hid (bgo (bnil _).drew o5.below); have O5 := hid o5; clear o5)
            go_wp2_with fail
            refine hK.out _ _ ?_ (fun hHeld => ?_)
            · (try dsimp only); first | assumption | exact HS18.out _ (bnil _).drew | exact HS18.out _ Z5.out
            clear hK K
            try simp only [Act.put, List.setIfInBounds_toArray, List.set_cons_zero, List.set_cons_succ]
            refine wpAnyH_take (i := 14) (oi := ⟨some 7, _, _, _, _, _⟩) (v := ?_) rfl (by kernel_rfl) (by kernel_rfl) (by kernel_rfl) (fun _ _ _ h => h) (Or.inl ⟨by rfl, ?_⟩) (by assumption) ?_
            rotate_left
            · intro w hSw; (try dsimp only at hSw); go_simp <;> with_reducible rfl
            try simp only [Act.put, List.setIfInBounds_toArray, List.set_cons_zero, List.set_cons_succ]
            refine wpAnyH_done (by kernel_rfl) ?_ _
            rotate_left
            all_goals
              have HNEW := hid (show Below w.heap.size w w5 ∧ Sl w5 1 A5 (selM ns (ms.take (q + 1))).length (ints (castL (selM ns (ms.take (q + 1))))) ∧ Below wo.heap.size wo w5 from ⟨bgo HZ7.out Z5.out, O5.out.sl, bgo HZO.out Z5.out⟩)
              clear hHeld O5
              go_wp2_with fail
              go_roundw
              case rel => exact ⟨q + 1, A5, c5, by omega, rfl, by go_num, HNEW⟩
              case measure => simp [intOf]; omega
          · have HKD9 := hid hk
            have HKD := hid (show (M.kd : Int) = 2 from by rw [hk]; rfl)
            clear hk
            simp only [HKD.out] at HS18
            have s0 := HS18.out _ (bnil _)
            have HWTH := hid (show (fun x : Nat => decide (x ∈ (List.range i).filter fun z => hasT (ns.getD z 0) M.t) == false) = (fun x : Nat => decide (x ∈ (List.range i).filter fun z => hasT (ns.getD z 0) M.t) == M.wth) from by unfold VMatch.wth; rw [HKD9.out]; rfl)
            have HYY := hid (show ((selM ns (ms.take q)).filter fun x : Nat => decide (x ∈ (List.range i).filter fun z => hasT (ns.getD z 0) M.t) == false) = selM ns (ms.take (q + 1)) from by rw [HWTH.out]; exact HNXT.out)
            clear HS0 HWTH HNXT
            go_upto_region 18 with fail
            refine wp_region_held_drew (S := (fun w' => w'.cell? ⟨X, 0, none⟩ = some (.int .i64 2) ∧ w'.cell? ⟨X, 1, none⟩ = some (.string (kS M.t.1)) ∧ w'.cell? ⟨X, 2, none⟩ = some (.string (vS M.t.2)) ∧ (Instr.lookup 88 (.map (some mb)) (tagV M.t) false).run Try.prog w' = .ok (.slice Ap np cp) w')) (by kernel_rfl) ?_ (fun hHeld => ?_)
            · (try dsimp only); first | assumption | exact HS18.out _ (bnil _).drew | exact HS18.out _ Z5.out
            refine wpAnyH_take (i := 0) (oi := ⟨some 43, _, _, _, _, _⟩) (v := ?_) rfl (by kernel_rfl) (by kernel_rfl) (by kernel_rfl) (fun _ _ _ h => h) (Or.inl ⟨by rfl, ?_⟩) (by assumption) ?_
            rotate_left
            · intro w hSw; (try dsimp only at hSw); go_simp <;> with_reducible rfl
            try simp only [Act.put, List.setIfInBounds_toArray, List.set_cons_zero, List.set_cons_succ]
            refine wpAnyH_take (i := 1) (oi := ⟨some 44, _, _, _, _, _⟩) (v := ?_) rfl (by kernel_rfl) (by kernel_rfl) (by kernel_rfl) (fun _ _ _ h => h) (Or.inl ⟨by rfl, ?_⟩) (by assumption) ?_
            rotate_left
            · intro w hSw; (try dsimp only at hSw); go_simp <;> with_reducible rfl
            try simp only [Act.put, List.setIfInBounds_toArray, List.set_cons_zero, List.set_cons_succ]
            refine wpAnyH_take (i := 2) (oi := ⟨some 45, _, _, _, _, _⟩) (v := ?_) rfl (by kernel_rfl) (by kernel_rfl) (by kernel_rfl) (fun _ _ _ h => h) (Or.inl ⟨by rfl, ?_⟩) (by assumption) ?_
            rotate_left
            · intro w hSw; (try dsimp only at hSw); go_simp <;> with_reducible rfl
            try simp only [Act.put, List.setIfInBounds_toArray, List.set_cons_zero, List.set_cons_succ]
            refine wpAnyH_take (i := 3) (oi := ⟨some 46, _, _, _, _, _⟩) (v := ?_) rfl (by kernel_rfl) (by kernel_rfl) (by kernel_rfl) (fun _ _ _ h => h) (Or.inl ⟨by rfl, ?_⟩) (by assumption) ?_
            rotate_left
            · intro w hSw; (try dsimp only at hSw); go_simp <;> with_reducible rfl
            try simp only [Act.put, List.setIfInBounds_toArray, List.set_cons_zero, List.set_cons_succ]
            refine wpAnyH_take (i := 4) (oi := ⟨some 47, _, _, _, _, _⟩) (v := ?_) rfl (by kernel_rfl) (by kernel_rfl) (by kernel_rfl) (fun _ _ _ h => h) (Or.inl ⟨by rfl, ?_⟩) (by assumption) ?_
            rotate_left
            · intro w hSw; (try dsimp only at hSw); go_simp <;> with_reducible rfl
            try simp only [Act.put, List.setIfInBounds_toArray, List.set_cons_zero, List.set_cons_succ]
            refine wpAnyH_take (i := 5) (oi := ⟨some 48, _, _, _, _, _⟩) (v := ?_) rfl (by kernel_rfl) (by kernel_rfl) (by kernel_rfl) (fun _ _ _ h => h) (Or.inl ⟨by rfl, ?_⟩) (by assumption) ?_
            rotate_left
            · intro w hSw; (try dsimp only at hSw); go_simp <;> with_reducible rfl
            try simp only [Act.put, List.setIfInBounds_toArray, List.set_cons_zero, List.set_cons_succ]
            refine wpAnyH_take (i := 6) (oi := ⟨some 49, _, _, _, _, _⟩) (v := ?_) rfl (by kernel_rfl) (by kernel_rfl) (by kernel_rfl) (fun _ _ _ h => h) (Or.inl ⟨by rfl, ?_⟩) (by assumption) ?_
            rotate_left
            · intro w hSw; (try dsimp only at hSw); go_simp <;> with_reducible rfl
            try simp only [Act.put, List.setIfInBounds_toArray, List.set_cons_zero, List.set_cons_succ]
            refine wpAnyH_take (i := 7) (oi := ⟨some 50, _, _, _, _, _⟩) (v := ?_) rfl (by kernel_rfl) (by kernel_rfl) (by kernel_rfl) (fun _ _ _ h => h) (Or.inl ⟨by rfl, ?_⟩) (by assumption) ?_
            rotate_left
            · intro w hSw; (try dsimp only at hSw); go_simp <;> with_reducible rfl
            try simp only [Act.put, List.setIfInBounds_toArray, List.set_cons_zero, List.set_cons_succ]
            refine wpAnyH_take (i := 8) (oi := ⟨some 51, _, _, _, _, _⟩) (v := ?_) rfl (by kernel_rfl) (by kernel_rfl) (by kernel_rfl) (fun _ _ _ h => h) (Or.inl ⟨by rfl, ?_⟩) (by assumption) ?_
            rotate_left
            · intro w hSw; (try dsimp only at hSw); go_simp <;> with_reducible rfl
            try simp only [Act.put, List.setIfInBounds_toArray, List.set_cons_zero, List.set_cons_succ]
            refine wpAnyH_take (i := 9) (oi := ⟨some 52, _, _, _, _, _⟩) (v := ?_) rfl (by kernel_rfl) (by kernel_rfl) (by kernel_rfl) (fun _ _ _ h => h) (Or.inl ⟨by rfl, ?_⟩) (by assumption) ?_
            rotate_left
            · intro w hSw; (try dsimp only at hSw); go_simp <;> with_reducible rfl
            try simp only [Act.put, List.setIfInBounds_toArray, List.set_cons_zero, List.set_cons_succ]
            refine wpAnyH_take (i := 10) (oi := ⟨some 53, _, _, _, _, _⟩) (v := ?_) rfl (by kernel_rfl) (by kernel_rfl) (by kernel_rfl) (fun _ _ _ h => h) (Or.inl ⟨by rfl, ?_⟩) (by assumption) ?_
            rotate_left
            · intro w hSw; (try dsimp only at hSw); go_simp <;> with_reducible rfl
            try simp only [Act.put, List.setIfInBounds_toArray, List.set_cons_zero, List.set_cons_succ]
            refine wpAnyH_take (i := 11) (oi := ⟨some 54, _, _, _, _, _⟩) (v := ?_) rfl (by kernel_rfl) (by kernel_rfl) (by kernel_rfl) (fun _ _ _ h => h) (Or.inl ⟨by rfl, ?_⟩) (by assumption) ?_
            rotate_left
            · intro w hSw; (try dsimp only at hSw); go_simp <;> with_reducible rfl
            try simp only [Act.put, List.setIfInBounds_toArray, List.set_cons_zero, List.set_cons_succ]
            refine wpAnyH_take (i := 12) (oi := ⟨some 55, _, _, _, _, _⟩) (v := ?_) rfl (by kernel_rfl) (by kernel_rfl) (by kernel_rfl) (fun _ _ _ h => h) (Or.inl ⟨by rfl, ?_⟩) (by assumption) ?_
            rotate_left
            · intro w hSw; (try dsimp only at hSw); go_simp <;> with_reducible rfl
            try simp only [Act.put, List.setIfInBounds_toArray, List.set_cons_zero, List.set_cons_succ]
            refine wpAnyH_ready (rs := [13]) (by kernel_rfl) (by simp) ?_
            refine AllReadyH.cons (o := ⟨some 56, _, _, _, _, _⟩) rfl (fun K hK => ?_) AllReadyH.nil
            go_simp
            (refine (tags_bothL A' Ap _ np c' cp (selM ns (ms.take q)) _ false _ HSL.out HNP.out (HSA.out.below (bnil _).drew) (HPS.out.below (bnil _).drew) rfl HPL.out HPA.out (selM ns (ms.take (q + 1))) HYY.out).mono ?_; rintro e w5 ⟨A5, c5, rfl, o5⟩; have Z5 := hid (bgo (bnil _).drew o5.below); have O5 := hid o5; clear o5)
            go_wp2_with fail
            refine hK.out _ _ ?_ (fun hHeld => ?_)
            · (try dsimp only); first | assumption | exact HS18.out _ (bnil _).drew | exact HS18.out _ Z5.out
            clear hK K
            try simp only [Act.put, List.setIfInBounds_toArray, List.set_cons_zero, List.set_cons_succ]
            refine wpAnyH_take (i := 14) (oi := ⟨some 7, _, _, _, _, _⟩) (v := ?_) rfl (by kernel_rfl) (by kernel_rfl) (by kernel_rfl) (fun _ _ _ h => h) (Or.inl ⟨by rfl, ?_⟩) (by assumption) ?_
            rotate_left
            · intro w hSw; (try dsimp only at hSw); go_simp <;> with_reducible rfl
            try simp only [Act.put, List.setIfInBounds_toArray, List.set_cons_zero, List.set_cons_succ]
            refine wpAnyH_done (by kernel_rfl) ?_ _
            rotate_left
            all_goals
              have HNEW := hid (show Below w.heap.size w w5 ∧ Sl w5 1 A5 (selM ns (ms.take (q + 1))).length (ints (castL (selM ns (ms.take (q + 1))))) ∧ Below wo.heap.size wo w5 from ⟨bgo HZ7.out Z5.out, O5.out.sl, bgo HZO.out Z5.out⟩)
              clear hHeld O5
              go_wp2_with fail
              go_roundw
              case rel => exact ⟨q + 1, A5, c5, by omega, rfl, by go_num, HNEW⟩
              case measure => simp [intOf]; omega
          · have HKD9 := hid hk
            have HKD := hid (show (M.kd : Int) = 3 from by rw [hk]; rfl)
            clear hk
            simp only [HKD.out] at HS18
            have s0 := HS18.out _ (bnil _)
            have HWTH := hid (show (fun x : Nat => decide (x ∈ (List.range i).filter fun z => hasT (ns.getD z 0) M.t) == true) = (fun x : Nat => decide (x ∈ (List.range i).filter fun z => hasT (ns.getD z 0) M.t) == M.wth) from by unfold VMatch.wth; rw [HKD9.out]; rfl)
            have HYY := hid (show ((selM ns (ms.take q)).filter fun x : Nat => decide (x ∈ (List.range i).filter fun z => hasT (ns.getD z 0) M.t) == true) = selM ns (ms.take (q + 1)) from by rw [HWTH.out]; exact HNXT.out)
            clear HS0 HWTH HNXT
            go_upto_region 18 with fail
            refine wp_region_held_drew (S := (fun w' => w'.cell? ⟨X, 0, none⟩ = some (.int .i64 3) ∧ w'.cell? ⟨X, 1, none⟩ = some (.string (kS M.t.1)) ∧ w'.cell? ⟨X, 2, none⟩ = some (.string (vS M.t.2)) ∧ (Instr.lookup 88 (.map (some mb)) (tagV M.t) false).run Try.prog w' = .ok (.slice Ap np cp) w')) (by kernel_rfl) ?_ (fun hHeld => ?_)
            · (try dsimp only); first | assumption | exact HS18.out _ (bnil _).drew | exact HS18.out _ Z5.out
            refine wpAnyH_take (i := 0) (oi := ⟨some 43, _, _, _, _, _⟩) (v := ?_) rfl (by kernel_rfl) (by kernel_rfl) (by kernel_rfl) (fun _ _ _ h => h) (Or.inl ⟨by rfl, ?_⟩) (by assumption) ?_
            rotate_left
            · intro w hSw; (try dsimp only at hSw); go_simp <;> with_reducible rfl
            try simp only [Act.put, List.setIfInBounds_toArray, List.set_cons_zero, List.set_cons_succ]
            refine wpAnyH_take (i := 1) (oi := ⟨some 44, _, _, _, _, _⟩) (v := ?_) rfl (by kernel_rfl) (by kernel_rfl) (by kernel_rfl) (fun _ _ _ h => h) (Or.inl ⟨by rfl, ?_⟩) (by assumption) ?_
            rotate_left
            · intro w hSw; (try dsimp only at hSw); go_simp <;> with_reducible rfl
            try simp only [Act.put, List.setIfInBounds_toArray, List.set_cons_zero, List.set_cons_succ]
            refine wpAnyH_take (i := 2) (oi := ⟨some 45, _, _, _, _, _⟩) (v := ?_) rfl (by kernel_rfl) (by kernel_rfl) (by kernel_rfl) (fun _ _ _ h => h) (Or.inl ⟨by rfl, ?_⟩) (by assumption) ?_
            rotate_left
            · intro w hSw; (try dsimp only at hSw); go_simp <;> with_reducible rfl
            try simp only [Act.put, List.setIfInBounds_toArray, List.set_cons_zero, List.set_cons_succ]
            refine wpAnyH_take (i := 3) (oi := ⟨some 46, _, _, _, _, _⟩) (v := ?_) rfl (by kernel_rfl) (by kernel_rfl) (by kernel_rfl) (fun _ _ _ h => h) (Or.inl ⟨by rfl, ?_⟩) (by assumption) ?_
            rotate_left
            · intro w hSw; (try dsimp only at hSw); go_simp <;> with_reducible rfl
            try simp only [Act.put, List.setIfInBounds_toArray, List.set_cons_zero, List.set_cons_succ]
            refine wpAnyH_take (i := 4) (oi := ⟨some 47, _, _, _, _, _⟩) (v := ?_) rfl (by kernel_rfl) (by kernel_rfl) (by kernel_rfl) (fun _ _ _ h => h) (Or.inl ⟨by rfl, ?_⟩) (by assumption) ?_
            rotate_left
            · intro w hSw; (try dsimp only at hSw); go_simp <;> with_reducible rfl
            try simp only [Act.put, List.setIfInBounds_toArray, List.set_cons_zero, List.set_cons_succ]
            refine wpAnyH_take (i := 5) (oi := ⟨some 48, _, _, _, _, _⟩) (v := ?_) rfl (by kernel_rfl) (by kernel_rfl) (by kernel_rfl) (fun _ _ _ h => h) (Or.inl ⟨by rfl, ?_⟩) (by assumption) ?_
            rotate_left
            · intro w hSw; (try dsimp only at hSw); go_simp <;> with_reducible rfl
            try simp only [Act.put, List.setIfInBounds_toArray, List.set_cons_zero, List.set_cons_succ]
            refine wpAnyH_take (i := 6) (oi := ⟨some 49, _, _, _, _, _⟩) (v := ?_) rfl (by kernel_rfl) (by kernel_rfl) (by kernel_rfl) (fun _ _ _ h => h) (Or.inl ⟨by rfl, ?_⟩) (by assumption) ?_
            rotate_left
            · intro w hSw; (try dsimp only at hSw); go_simp <;> with_reducible rfl
            try simp only [Act.put, List.setIfInBounds_toArray, List.set_cons_zero, List.set_cons_succ]
            refine wpAnyH_take (i := 7) (oi := ⟨some 50, _, _, _, _, _⟩) (v := ?_) rfl (by kernel_rfl) (by kernel_rfl) (by kernel_rfl) (fun _ _ _ h => h) (Or.inl ⟨by rfl, ?_⟩) (by assumption) ?_
            rotate_left
            · intro w hSw; (try dsimp only at hSw); go_simp <;> with_reducible rfl
            try simp only [Act.put, List.setIfInBounds_toArray, List.set_cons_zero, List.set_cons_succ]
            refine wpAnyH_take (i := 8) (oi := ⟨some 51, _, _, _, _, _⟩) (v := ?_) rfl (by kernel_rfl) (by kernel_rfl) (by kernel_rfl) (fun _ _ _ h => h) (Or.inl ⟨by rfl, ?_⟩) (by assumption) ?_
            rotate_left
            · intro w hSw; (try dsimp only at hSw); go_simp <;> with_reducible rfl
            try simp only [Act.put, List.setIfInBounds_toArray, List.set_cons_zero, List.set_cons_succ]
            refine wpAnyH_take (i := 9) (oi := ⟨some 52, _, _, _, _, _⟩) (v := ?_) rfl (by kernel_rfl) (by kernel_rfl) (by kernel_rfl) (fun _ _ _ h => h) (Or.inl ⟨by rfl, ?_⟩) (by assumption) ?_
            rotate_left
            · intro w hSw; (try dsimp only at hSw); go_simp <;> with_reducible rfl
            try simp only [Act.put, List.setIfInBounds_toArray, List.set_cons_zero, List.set_cons_succ]
            refine wpAnyH_take (i := 10) (oi := ⟨some 53, _, _, _, _, _⟩) (v := ?_) rfl (by kernel_rfl) (by kernel_rfl) (by kernel_rfl) (fun _ _ _ h => h) (Or.inl ⟨by rfl, ?_⟩) (by assumption) ?_
            rotate_left
            · intro w hSw; (try dsimp only at hSw); go_simp <;> with_reducible rfl
            try simp only [Act.put, List.setIfInBounds_toArray, List.set_cons_zero, List.set_cons_succ]
            refine wpAnyH_take (i := 11) (oi := ⟨some 54, _, _, _, _, _⟩) (v := ?_) rfl (by kernel_rfl) (by kernel_rfl) (by kernel_rfl) (fun _ _ _ h => h) (Or.inl ⟨by rfl, ?_⟩) (by assumption) ?_
            rotate_left
            · intro w hSw; (try dsimp only at hSw); go_simp <;> with_reducible rfl
            try simp only [Act.put, List.setIfInBounds_toArray, List.set_cons_zero, List.set_cons_succ]
            refine wpAnyH_take (i := 12) (oi := ⟨some 55, _, _, _, _, _⟩) (v := ?_) rfl (by kernel_rfl) (by kernel_rfl) (by kernel_rfl) (fun _ _ _ h => h) (Or.inl ⟨by rfl, ?_⟩) (by assumption) ?_
            rotate_left
            · intro w hSw; (try dsimp only at hSw); go_simp <;> with_reducible rfl
            try simp only [Act.put, List.setIfInBounds_toArray, List.set_cons_zero, List.set_cons_succ]
            refine wpAnyH_ready (rs := [13]) (by kernel_rfl) (by simp) ?_
            refine AllReadyH.cons (o := ⟨some 56, _, _, _, _, _⟩) rfl (fun K hK => ?_) AllReadyH.nil
            go_simp
            (refine (tags_bothL A' Ap _ np c' cp (selM ns (ms.take q)) _ true _ HSL.out HNP.out (HSA.out.below (bnil _).drew) (HPS.out.below (bnil _).drew) rfl HPL.out HPA.out (selM ns (ms.take (q + 1))) HYY.out).mono ?_; rintro e w5 ⟨A5, c5, rfl, o5⟩; have Z5 := hid (bgo (bnil _).drew o5.below); have O5 := hid o5; clear o5)
            go_wp2_with fail
            refine hK.out _ _ ?_ (fun hHeld => ?_)
            · (try dsimp only); first | assumption | exact HS18.out _ (bnil _).drew | exact HS18.out _ Z5.out
            clear hK K
            try simp only [Act.put, List.setIfInBounds_toArray, List.set_cons_zero, List.set_cons_succ]
            refine wpAnyH_take (i := 14) (oi := ⟨some 7, _, _, _, _, _⟩) (v := ?_) rfl (by kernel_rfl) (by kernel_rfl) (by kernel_rfl) (fun _ _ _ h => h) (Or.inl ⟨by rfl, ?_⟩) (by assumption) ?_
            rotate_left
            · intro w hSw; (try dsimp only at hSw); go_simp <;> with_reducible rfl
            try simp only [Act.put, List.setIfInBounds_toArray, List.set_cons_zero, List.set_cons_succ]
            refine wpAnyH_done (by kernel_rfl) ?_ _
            rotate_left
            all_goals
              have HNEW := hid (show Below w.heap.size w w5 ∧ Sl w5 1 A5 (selM ns (ms.take (q + 1))).length (ints (castL (selM ns (ms.take (q + 1))))) ∧ Below wo.heap.size wo w5 from ⟨bgo HZ7.out Z5.out, O5.out.sl, bgo HZO.out Z5.out⟩)
              clear hHeld O5
              go_wp2_with fail
              go_roundw
              case rel => exact ⟨q + 1, A5, c5, by omega, rfl, by go_num, HNEW⟩
              case measure => simp [intOf]; omega
          · have HKD9 := hid hk
            have HKD := hid (show (M.kd : Int) = 4 from by rw [hk]; rfl)
            clear hk
            simp only [HKD.out] at HS18
            have s0 := HS18.out _ (bnil _)
            have HWTH := hid (show (fun x : Nat => decide (x ∈ (List.range i).filter fun z => hasT (ns.getD z 0) M.t) == false) = (fun x : Nat => decide (x ∈ (List.range i).filter fun z => hasT (ns.getD z 0) M.t) == M.wth) from by unfold VMatch.wth; rw [HKD9.out]; rfl)
            have HYY := hid (show ((selM ns (ms.take q)).filter fun x : Nat => decide (x ∈ (List.range i).filter fun z => hasT (ns.getD z 0) M.t) == false) = selM ns (ms.take (q + 1)) from by rw [HWTH.out]; exact HNXT.out)
            clear HS0 HWTH HNXT
            go_upto_region 18 with fail
            refine wp_region_held_drew (S := (fun w' => w'.cell? ⟨X, 0, none⟩ = some (.int .i64 4) ∧ w'.cell? ⟨X, 1, none⟩ = some (.string (kS M.t.1)) ∧ w'.cell? ⟨X, 2, none⟩ = some (.string (vS M.t.2)) ∧ (Instr.lookup 88 (.map (some mb)) (tagV M.t) false).run Try.prog w' = .ok (.slice Ap np cp) w')) (by kernel_rfl) ?_ (fun hHeld => ?_)
            · (try dsimp only); first | assumption | exact HS18.out _ (bnil _).drew | exact HS18.out _ Z5.out
            refine wpAnyH_take (i := 0) (oi := ⟨some 43, _, _, _, _, _⟩) (v := ?_) rfl (by kernel_rfl) (by kernel_rfl) (by kernel_rfl) (fun _ _ _ h => h) (Or.inl ⟨by rfl, ?_⟩) (by assumption) ?_
            rotate_left
            · intro w hSw; (try dsimp only at hSw); go_simp <;> with_reducible rfl
            try simp only [Act.put, List.setIfInBounds_toArray, List.set_cons_zero, List.set_cons_succ]
            refine wpAnyH_take (i := 1) (oi := ⟨some 44, _, _, _, _, _⟩) (v := ?_) rfl (by kernel_rfl) (by kernel_rfl) (by kernel_rfl) (fun _ _ _ h => h) (Or.inl ⟨by rfl, ?_⟩) (by assumption) ?_
            rotate_left
            · intro w hSw; (try dsimp only at hSw); go_simp <;> with_reducible rfl
            try simp only [Act.put, List.setIfInBounds_toArray, List.set_cons_zero, List.set_cons_succ]
            refine wpAnyH_take (i := 2) (oi := ⟨some 45, _, _, _, _, _⟩) (v := ?_) rfl (by kernel_rfl) (by kernel_rfl) (by kernel_rfl) (fun _ _ _ h => h) (Or.inl ⟨by rfl, ?_⟩) (by assumption) ?_
            rotate_left
            · intro w hSw; (try dsimp only at hSw); go_simp <;> with_reducible rfl
            try simp only [Act.put, List.setIfInBounds_toArray, List.set_cons_zero, List.set_cons_succ]
            refine wpAnyH_take (i := 3) (oi := ⟨some 46, _, _, _, _, _⟩) (v := ?_) rfl (by kernel_rfl) (by kernel_rfl) (by kernel_rfl) (fun _ _ _ h => h) (Or.inl ⟨by rfl, ?_⟩) (by assumption) ?_
            rotate_left
            · intro w hSw; (try dsimp only at hSw); go_simp <;> with_reducible rfl
            try simp only [Act.put, List.setIfInBounds_toArray, List.set_cons_zero, List.set_cons_succ]
            refine wpAnyH_take (i := 4) (oi := ⟨some 47, _, _, _, _, _⟩) (v := ?_) rfl (by kernel_rfl) (by kernel_rfl) (by kernel_rfl) (fun _ _ _ h => h) (Or.inl ⟨by rfl, ?_⟩) (by assumption) ?_
            rotate_left
            · intro w hSw; (try dsimp only at hSw); go_simp <;> with_reducible rfl
            try simp only [Act.put, List.setIfInBounds_toArray, List.set_cons_zero, List.set_cons_succ]
            refine wpAnyH_take (i := 5) (oi := ⟨some 48, _, _, _, _, _⟩) (v := ?_) rfl (by kernel_rfl) (by kernel_rfl) (by kernel_rfl) (fun _ _ _ h => h) (Or.inl ⟨by rfl, ?_⟩) (by assumption) ?_
            rotate_left
            · intro w hSw; (try dsimp only at hSw); go_simp <;> with_reducible rfl
            try simp only [Act.put, List.setIfInBounds_toArray, List.set_cons_zero, List.set_cons_succ]
            refine wpAnyH_take (i := 6) (oi := ⟨some 49, _, _, _, _, _⟩) (v := ?_) rfl (by kernel_rfl) (by kernel_rfl) (by kernel_rfl) (fun _ _ _ h => h) (Or.inl ⟨by rfl, ?_⟩) (by assumption) ?_
            rotate_left
            · intro w hSw; (try dsimp only at hSw); go_simp <;> with_reducible rfl
            try simp only [Act.put, List.setIfInBounds_toArray, List.set_cons_zero, List.set_cons_succ]
            refine wpAnyH_take (i := 7) (oi := ⟨some 50, _, _, _, _, _⟩) (v := ?_) rfl (by kernel_rfl) (by kernel_rfl) (by kernel_rfl) (fun _ _ _ h => h) (Or.inl ⟨by rfl, ?_⟩) (by assumption) ?_
            rotate_left
            · intro w hSw; (try dsimp only at hSw); go_simp <;> with_reducible rfl
            try simp only [Act.put, List.setIfInBounds_toArray, List.set_cons_zero, List.set_cons_succ]
            refine wpAnyH_take (i := 8) (oi := ⟨some 51, _, _, _, _, _⟩) (v := ?_) rfl (by kernel_rfl) (by kernel_rfl) (by kernel_rfl) (fun _ _ _ h => h) (Or.inl ⟨by rfl, ?_⟩) (by assumption) ?_
            rotate_left
            · intro w hSw; (try dsimp only at hSw); go_simp <;> with_reducible rfl
            try simp only [Act.put, List.setIfInBounds_toArray, List.set_cons_zero, List.set_cons_succ]
            refine wpAnyH_take (i := 9) (oi := ⟨some 52, _, _, _, _, _⟩) (v := ?_) rfl (by kernel_rfl) (by kernel_rfl) (by kernel_rfl) (fun _ _ _ h => h) (Or.inl ⟨by rfl, ?_⟩) (by assumption) ?_
            rotate_left
            · intro w hSw; (try dsimp only at hSw); go_simp <;> with_reducible rfl
            try simp only [Act.put, List.setIfInBounds_toArray, List.set_cons_zero, List.set_cons_succ]
            refine wpAnyH_take (i := 10) (oi := ⟨some 53, _, _, _, _, _⟩) (v := ?_) rfl (by kernel_rfl) (by kernel_rfl) (by kernel_rfl) (fun _ _ _ h => h) (Or.inl ⟨by rfl, ?_⟩) (by assumption) ?_
            rotate_left
            · intro w hSw; (try dsimp only at hSw); go_simp <;> with_reducible rfl
            try simp only [Act.put, List.setIfInBounds_toArray, List.set_cons_zero, List.set_cons_succ]
            refine wpAnyH_take (i := 11) (oi := ⟨some 54, _, _, _, _, _⟩) (v := ?_) rfl (by kernel_rfl) (by kernel_rfl) (by kernel_rfl) (fun _ _ _ h => h) (Or.inl ⟨by rfl, ?_⟩) (by assumption) ?_
            rotate_left
            · intro w hSw; (try dsimp only at hSw); go_simp <;> with_reducible rfl
            try simp only [Act.put, List.setIfInBounds_toArray, List.set_cons_zero, List.set_cons_succ]
            refine wpAnyH_take (i := 12) (oi := ⟨some 55, _, _, _, _, _⟩) (v := ?_) rfl (by kernel_rfl) (by kernel_rfl) (by kernel_rfl) (fun _ _ _ h => h) (Or.inl ⟨by rfl, ?_⟩) (by assumption) ?_
            rotate_left
            · intro w hSw; (try dsimp only at hSw); go_simp <;> with_reducible rfl
            try simp only [Act.put, List.setIfInBounds_toArray, List.set_cons_zero, List.set_cons_succ]
            refine wpAnyH_ready (rs := [13]) (by kernel_rfl) (by simp) ?_
            refine AllReadyH.cons (o := ⟨some 56, _, _, _, _, _⟩) rfl (fun K hK => ?_) AllReadyH.nil
            go_simp
            (refine (tags_bothL A' Ap _ np c' cp (selM ns (ms.take q)) _ false _ HSL.out HNP.out (HSA.out.below (bnil _).drew) (HPS.out.below (bnil _).drew) rfl HPL.out HPA.out (selM ns (ms.take (q + 1))) HYY.out).mono ?_; rintro e w5 ⟨A5, c5, rfl, o5⟩; have Z5 := hid (bgo (bnil _).drew o5.below); have O5 := hid o5; clear o5)
            go_wp2_with fail
            refine hK.out _ _ ?_ (fun hHeld => ?_)
            · (try dsimp only); first | assumption | exact HS18.out _ (bnil _).drew | exact HS18.out _ Z5.out
            clear hK K
            try simp only [Act.put, List.setIfInBounds_toArray, List.set_cons_zero, List.set_cons_succ]
            refine wpAnyH_take (i := 14) (oi := ⟨some 7, _, _, _, _, _⟩) (v := ?_) rfl (by kernel_rfl) (by kernel_rfl) (by kernel_rfl) (fun _ _ _ h => h) (Or.inl ⟨by rfl, ?_⟩) (by assumption) ?_
            rotate_left
            · intro w hSw; (try dsimp only at hSw); go_simp <;> with_reducible rfl
            try simp only [Act.put, List.setIfInBounds_toArray, List.set_cons_zero, List.set_cons_succ]
            refine wpAnyH_done (by kernel_rfl) ?_ _
            rotate_left
            all_goals
              have HNEW := hid (show Below w.heap.size w w5 ∧ Sl w5 1 A5 (selM ns (ms.take (q + 1))).length (ints (castL (selM ns (ms.take (q + 1))))) ∧ Below wo.heap.size wo w5 from ⟨bgo HZ7.out Z5.out, O5.out.sl, bgo HZO.out Z5.out⟩)
              clear hHeld O5
              go_wp2_with fail
              go_roundw
              case rel => exact ⟨q + 1, A5, c5, by omega, rfl, by go_num, HNEW⟩
              case measure => simp [intOf]; omega
        · obtain rfl : q = m := by omega
          have hall : ms.take q = ms := List.take_of_length_le (by rw [HL.out]; exact Nat.le_refl _)
          rw [hall] at HS0 ⊢
          clear hall
          go_wp2_with fail
          refine bodyPost_ret (v := .tuple #[.slice A' (selM ns ms).length c', .int .i64 0]) (by simp [results, Try.results21, go_sem]) rfl ?_
          exact ⟨A', c', rfl, HS0.out.1, HS0.out.2.1⟩
end Go.Proofs.Ytfdgklfkpofkeaa
