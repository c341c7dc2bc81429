/-
  tags.Values: its walk.
-/
import Derived.Test.YtfdgklfkpofkeaaTgVm
import Derived.Test.YtfdgklfkpofkeaaTgMay
import Derived.Test.YtfdgklfkpofkeaaTgIter
namespace Go.Proofs.Ytfdgklfkpofkeaa
open Go.RowKit Go.Maps
set_option linter.unusedVariables false

theorem zeroN (w : World) : (zeroValue 3).run Try.prog w = .ok (.int .i64 0) w := by kernel_rfl
theorem keys_sorted {ns : List Nat} {k : Nat} {f2 : Lit → Option Value} {w : World} {b n : Nat} {D : DataW Value} (hown : w.ownsMap Try.prog 9 kept b n D) (hD : ∀ kl z, D.atKey kl z = match f2 kl with | some v => .held v | none => z) (hF : CntF ns k f2) {ss : List (List UInt8)} (hS : ss.Perm (Go.strKeys D)) : ss.mergeSort (fun x y => decide (x ≤ y)) = (jsOf ns k).map vB := by
  have hc : Go.Collected D (fun _ => false) ((jsOf ns k).map vB) := by
    refine ⟨?_, fun x => ?_⟩
    · refine List.pairwise_map.2 ((jsOf_asc ns k).imp_of_mem fun {a b} ha hb hlt e => ?_)
      have := vB_inj a (jsOf_lt ha).2.1 b (jsOf_lt hb).2.1 e
      omega
    · rw [has_of hD]
      constructor
      · intro hx
        obtain ⟨j, hj, rfl⟩ := List.mem_map.1 hx
        obtain ⟨h1, h4, hc⟩ := jsOf_lt hj
        rw [hF.1 j h1 h4, if_pos hc]; exact ⟨rfl, rfl⟩
      · rintro ⟨hx, _⟩
        obtain ⟨v, hv⟩ := Option.isSome_iff_exists.1 hx
        obtain ⟨j, h1, h4, e⟩ := hF.2 _ v hv
        injection e with e
        subst e
        refine List.mem_map.2 ⟨j, jsOf_mem h1 h4 fun h0 => ?_, rfl⟩
        rw [hF.1 j h1 h4, if_neg (fun h => h h0)] at hv
        cases hv
  have hp := hc.perm hown kStr Try.underlying9 (fun _ => rfl)
  have h1 : ss.mergeSort Go.leB = ((jsOf ns k).map vB).mergeSort Go.leB := Go.mergeSort_of_perm (hS.trans hp.symm)
  refine h1.trans ?_
  have h2 : ((jsOf ns k).map vB).Pairwise fun a b => Go.leB a b = true := List.pairwise_map.2 ((jsOf_asc ns k).imp_of_mem fun {a b} ha hb hlt => decide_eq_true (vB_le a (jsOf_lt ha).2.1 b (jsOf_lt hb).2.1 hlt))
  first | exact List.mergeSort_of_pairwise h2 | exact List.mergeSort_of_sorted h2
set_option maxRecDepth 100000 in
set_option maxHeartbeats 8000000 in
theorem tags_values (A : Option Addr) (n c k : Nat) (ns : List Nat) (w : World) (hnc : n ≤ c) (h : SerAt w A n ns) (hk3 : k < 3) :
    Calls Try.prog 20 #[.slice A n c, .string (kS k)] w fun e w' => ∃ (A1 A2 : Option Addr) (N c1 c2 : Nat), e = .returned (.tuple #[.slice A1 N c1, .slice A2 N c2, .int .i64 0]) ∧ Below w.heap.size w w' ∧ (jsOf ns k).length = N ∧
      Sl w' 1 A1 N ((jsOf ns k).map fun j => .string (vS j)) ∧ Sl w' 1 A2 N (ints (castL ((jsOf ns k).map fun j => cntT ns (k, j)))) := by
  have H := hid h
  have hn30 := h.most
  clear h
  have hmm := @run_makeMap Try.prog
  go_enter Try.func20, Try.ntmps20
  go_wp2_with fail
  refine (tags_may A n c ns w hnc H.out).mono ?_
  rintro e w1 ⟨rfl, z1⟩
  have Z1 := hid z1
  clear z1
  go_wp2_with fail
  refine (name_of (kS k) _ (nam_k _)).mono ?_
  rintro e w2 ⟨rfl, z2⟩
  have Z2 := hid (bgo Z1.out z2)
  clear z2
  go_wp2_with fail
  refine (tags_index2 A n c ns _ ((H.out.below Z2.out).below (bnew (bnil w2) _))).mono ?_
  rintro e w3 ⟨mb, rfl, hix, z3, hge⟩
  obtain ⟨N, f, hM, hV, hN⟩ := ValF.of hix
  have HM := hid hM
  have HV := hid hV
  have HC := hid (MapV.below (MapV.made w2 Try.prog 9) z3)
  have Z3 := hid (bgo Z2.out (bgo (bnew (bnil w2) _) z3))
  obtain ⟨cb, hcb⟩ : ∃ cb, w2.heap.size = cb := ⟨_, rfl⟩
  rw [hcb] at HC
  have HCB := hid hcb
  have hcm : cb ≠ mb := by
    have : (w2.alloc (.map #[] 0)).heap.size ≤ mb := hge
    simp at this
    omega
  clear hix z3 hM hV hcb hge
  simp only [HCB.out]
  go_wp2_with (at_range; refine wpList_rangeV _ rfl (.tmp 24) 88 rfl 43 37 kT Try.underlying88 mb N f rfl HM.out ?_; intro w4 left0 cnt0 HRG0 HL0 HG0 hsz0 hcnt0; go_frame)
  obtain ⟨r, hr⟩ : ∃ r, w3.heap.size = r := ⟨_, rfl⟩
  rw [hr] at HRG0
  simp only [hr]
  have hrc : cb ≠ r := by have := HC.out.lt; omega
  have hZr : w.heap.size ≤ r := by have := Z3.out.size; omega
  have hZc : w.heap.size ≤ cb := by have := Z2.out.size; have := HCB.out; omega
  go_loopw [9] (fun _ wr => ∃ (left : Lit → Bool) (cnt N2 : Nat) (f2 : Lit → Option Value), N2 + cnt ≤ cnt0 ∧ Hid (RngV wr Try.prog 43 mb r N f left cnt) ∧ Hid (MapV wr Try.prog 9 cb N2 f2) ∧ Hid (CntI ns k f f2 left) ∧ Hid (Below w.heap.size w wr)) (fun _ wr => wr.rangeLeft mb r)
  case atStart => exact ⟨left0, cnt0, 0, _, by omega, HRG0, hid (HC.out.kept_ HG0.out (by simp)), hid (CntI.start HL0.out), hid (Z3.out.grown HG0.out Z3.out.size (fun j hj => by cases hj))⟩
  case round =>
    obtain ⟨left, cnt, N2, f2, hN2, HRG, HM2, HCI, HZ⟩ := hrel
    go_wp2_with (at_next; refine wpList_nextV _ rfl (.tmp 25) rfl 43 kT mb r N f left cnt rfl HRG.out ?_ ?_)
    · intro hl
      have HF := hid (HCI.out.fin hk3 HV.out hl)
      have hMF := HM2.out
      obtain ⟨D, hown, hD⟩ := hMF
      have hsz : Maps.size D ≤ 30000 := by have := hown.size_le; omega
      have HOWN := hid hown
      have HD := hid hD
      clear hown hD
      go_upto_region 9 with fail
      go_wp2_with fail
      refine (callsIn_wide.1 (Try.maps_Keys_33 (some cb) wr)).mono ?_
      rintro e w5 ⟨rfl, rfl⟩
      go_wp2_with fail
      refine (callsIn_wide.1 (Try.slices_Sorted_keys_32_33 cb N2 D kept wr HOWN.out (by simp only [maxLen]; omega) (by omega))).mono ?_
      rintro e w6 ⟨v, ss, rfl, hS, hrow, hnil, hb⟩
      have hss : ss.length = (jsOf ns k).length := by
        have := congrArg List.length (keys_sorted HOWN.out HD.out HF.out hS)
        rw [List.length_mergeSort, List.length_map] at this; exact this
      rw [keys_sorted HOWN.out HD.out HF.out hS, hss] at hrow
      obtain ⟨M, hM⟩ : ∃ M, (jsOf ns k).length = M := ⟨_, rfl⟩
      have HJL := hid hM
      have hM3 : M ≤ 3 := by rw [← hM]; unfold jsOf; exact List.length_filter_le _ _
      rw [hM] at hrow
      obtain ⟨Av, cv, rfl, hc1, hc2⟩ := own_form hrow
      have HSV := hid (Sl.own hrow)
      have ZB := hid (bgo (bnew (bnil wr) (.cells #[.map (some cb)] 86)) hb)
      have HM6 := hid (HM2.out.below ZB.out)
      clear hrow hb hS hnil hss hM
      obtain ⟨gs, hgs⟩ : ∃ gs, (jsOf ns k).map (fun j => cntT ns (k, j)) = gs := ⟨_, rfl⟩
      have HGS := hid hgs
      have HGL := hid (show gs.length = M by rw [← hgs, List.length_map]; exact HJL.out)
      clear hgs
      go_wp2_with fail
      go_loopw [11, 50] (fun v q w7 => ∃ (i c2 : Nat) (A2 : Option Addr), i ≤ M ∧ v = .slice A2 i c2 ∧ q = .int .i64 i ∧ Hid (Ow w6 w7 3 1 gI (.slice A2 i c2) (castL (gs.take i)))) (fun _ q _ => M - (intOf q).toNat)
      case atStart => exact ⟨0, 0, none, Nat.zero_le _, rfl, rfl, hid (Ow.nil w6 _ 1 gI)⟩
      case round =>
        obtain ⟨i, c2, A2, hi, rfl, rfl, HO⟩ := hrel
        by_cases hlt : i < M
        · have i1 : (i : Int) < (M : Int) := by omega
          have hjl : i < (jsOf ns k).length := by rw [HJL.out]; exact hlt
          obtain ⟨j, hj⟩ : ∃ j, (jsOf ns k)[i]? = some j := ⟨_, List.getElem?_eq_getElem hjl⟩
          obtain ⟨h1, h4, hc⟩ := jsOf_lt (List.mem_of_getElem? hj)
          obtain ⟨ad, rfl, hcell⟩ := (HSV.out.below HO.out.below).2 (by omega)
          have vc := hcell i (.string (vS j)) (by simp [hj, encStr, vB])
          have HF1 := hid (show f2 (.string (vB j)) = some (.int .i64 (cntT ns (k, j) : Int)) by rw [HF.out.1 j h1 h4, if_pos hc])
          obtain ⟨y, hy⟩ : ∃ y, castL (gs.take i) ++ [(cntT ns (k, j) : Int)] = y := ⟨_, rfl⟩
          have HY := hid hy
          have HYE := hid (show y = castL (gs.take (i + 1)) by
            rw [← hy, castL_app, List.take_add_one, ← HGS.out, List.getElem?_map, hj]; rfl)
          have HYL := hid (show y.length = i + 1 by rw [HYE.out, castL_len, List.length_take, HGL.out]; omega)
          have hjk := keyS h4
          have HJK := hid hjk
          clear hy hcell hjk hj
          go_wp2_with (first
            | (at_lookup; refine wpList_lookV _ rfl (.tmp 55) (.tmp 56) 86 rfl 9 3 kStr Try.underlying86 (zeroN _) cb N2 f2 rfl (HM6.out.below HO.out.below) _ _ rfl HJK.out (.int .i64 (cntT ns (k, j) : Int)) (by rw [HF1.out]; rfl) ?_)
            | (at_builtin; refine wpList_appY elmI gI_one rfl (.tmp 54) (.tmp 58) rfl (.slice A2 i c2) (castL (gs.take i)) rfl (HO.out.alloc _) [(cntT ns (k, j) : Int)] y HY rfl (Sl.fresh' _ #[_] 3 1 1 _ rfl rfl) rfl (by rw [HYL.out]; simp only [maxLen]; omega) (by rw [HYL.out]; omega) ?_; intro A7 c7 w7 hc7 hc8 O7 G7 _))
          rw [HYL.out] at O7 ⊢
          have O8 := hid (show Ow w6 w7 3 1 gI (.slice A7 (i + 1) c7) (castL (gs.take (i + 1))) by rw [← HYE.out]; exact O7.out)
          clear O7 G7
          go_roundw
          case rel => exact ⟨i + 1, c7, A7, by omega, rfl, by go_num, O8⟩
          case measure => simp [intOf]; omega
        · obtain rfl : i = M := by omega
          go_wp2_with fail
          go_ret3
          refine ⟨Av, A2, i, cv, c2, rfl, bgo (bgo HZ.out ZB.out) HO.out.below, HJL.out, ?_, ?_⟩
          · have h := HSV.out.below HO.out.below
            rw [List.map_map] at h
            exact h
          · have h := HO.out.sl
            rw [List.take_of_length_le (by rw [HGL.out]; exact Nat.le_refl _)] at h
            rw [HGS.out]
            exact h
    · intro x c kl w5 cnt' hkx hlx hfx HRG5 hlt HG5 hs5 hen
      obtain ⟨t, ht, hkt, A9, c9, rfl, hne⟩ := HV.out.dn kl c hfx
      obtain rfl := kT.inj hkx hkt
      have HM5 := hid (HM2.out.kept_ HG5.out (by intro e; injection e with e; exact hrc e))
      have HZ5 := hid (HZ.out.grown HG5.out HZ.out.size (fun j hj => by injection hj with hj; omega))
      have HTT := hid ht
      have HKT := hid hkt
      have HFX := hid hfx
      clear hkx hlx hfx hkt
      by_cases htk : t.1 = k
      · have e1 : ((kS t.1).toList == (kS k).toList) = true := by rw [kS_eq _ ht.1 _ hk3]; exact decide_eq_true htk
        have hsk : (kS t.1) = kS k := by rw [htk]
        by_cases ht0 : t.2 = 0
        · have hv0 : vS t.2 = ⟨#[]⟩ := by rw [ht0]; rfl
          have HT0 := hid ht0
          have HTK := hid htk
          clear ht0 htk
          go_wp2_with fail
          go_roundw
          case rel => exact ⟨_, cnt', N2, f2, by omega, hid (HRG5.out.alloc _), hid (HM5.out.alloc _), hid (HCI.out.skip hk3 HTT.out HKT.out (.inr HT0.out)), hid (bnew HZ5.out _)⟩
          case measure => rw [(HRG5.out.alloc _).left_eq, HRG.out.left_eq]; exact hlt
        · have hj1 : 1 ≤ t.2 := by omega
          have hnb : ∃ b1 bs, vS t.2 = ⟨⟨b1 :: bs⟩⟩ := by
            have := ht.2
            have : t.2 = 1 ∨ t.2 = 2 ∨ t.2 = 3 := by omega
            rcases this with h | h | h <;> rw [h] <;> exact ⟨_, _, rfl⟩
          obtain ⟨b1, bs, hbs⟩ := hnb
          have HKS := hid (show keyOf Try.prog 9 (.string ⟨⟨b1 :: bs⟩⟩) = some (.string (vB t.2)) by rw [← hbs]; exact keyS ht.2)
          have HTK := hid htk
          have hkt : keyOf Try.prog 43 (tagV (k, t.2)) = some kl := by rw [← HTK.out]; exact HKT.out
          have HP := hid (HCI.out.put hk3 hj1 ht.2 hkt (by rw [HFX.out]; rfl))
          have HCT := hid (show cntT ns t = cntT ns (k, t.2) by rw [← HTK.out])
          clear ht0 htk hkt
          go_wp2_with (at_mapUpdate; refine wpList_storeV _ rfl _ _ _ 86 rfl 9 3 kStr Try.underlying86 cb N2 f2 rfl (HM5.out.alloc _) (by simp only [maxLen]; omega) _ _ _ rfl rfl HKS.out ?_; intro w6 hm6 hg6; go_frame)
          have HR6 := hid ((HRG5.out.alloc _).kept_ hg6.out (by intro e; injection e with e; exact hcm e.symm) (by intro e; injection e with e; exact hrc e.symm))
          have HZ6 := hid ((bnew HZ5.out (.cells #[.string (kS k), .string ⟨⟨b1 :: bs⟩⟩] 43)).grown hg6.out (bnew HZ5.out _).size (fun j hj => by injection hj with hj; omega))
          go_roundw
          case rel => exact ⟨_, cnt', N2 + 1, _, by omega, HR6, hm6, hid (by have h := HP.out; rw [← HCT.out] at h; exact h), HZ6⟩
          case measure => rw [HR6.out.left_eq, HRG.out.left_eq]; exact hlt
      · have e1 : ((kS t.1).toList == (kS k).toList) = false := by rw [kS_eq _ ht.1 _ hk3]; exact decide_eq_false htk
        have HTK := hid htk
        clear htk
        go_wp2_with fail
        go_roundw
        case rel => exact ⟨_, cnt', N2, f2, by omega, hid (HRG5.out.alloc _), hid (HM5.out.alloc _), hid (HCI.out.skip hk3 HTT.out HKT.out (.inl HTK.out)), hid (bnew HZ5.out _)⟩
        case measure => rw [(HRG5.out.alloc _).left_eq, HRG.out.left_eq]; exact hlt
end Go.Proofs.Ytfdgklfkpofkeaa
