/-
  VmWords: its walk.
-/
import Derived.Test.YtljdnbdmfhcmpaaDoorVmPre
namespace Go.Proofs.YtljdnbdmfhcmpaaDoor
open Go.RowKit
set_option linter.unusedVariables false

/-- a drawn code: its registers are below four, its words below six at register five -/
structure CodeD (code : List Op5) : Prop where
  opin : ∀ o ∈ code, OpIn o
  word : ∀ o ∈ code, o.k = 13 ∨ o.k = 14 ∨ o.k = 15 → o.b = 5 ∧ 0 ≤ o.c ∧ o.c < 6
theorem codeOf_d (ls : List Op5) (n : Nat) : CodeD (codeOf ls n) := by
  refine ⟨fun o ho => ?_, fun o ho h => ?_⟩
  · unfold codeOf at ho
    obtain ⟨x, _, rfl⟩ := List.mem_map.1 ho
    exact (opOf_regs _ x).1
  · unfold codeOf at ho
    obtain ⟨x, _, rfl⟩ := List.mem_map.1 ho
    exact (opOf_regs _ x).2 h
theorem CodeD.inn {code : List Op5} (h : CodeD code) : CodeIn code :=
  ⟨fun o ho h1 h2 => (h.opin o ho).2.1 h1 h2, fun o ho => (h.opin o ho).1, fun o ho h1 => by obtain ⟨a, b, c⟩ := h.word o ho (by omega); exact ⟨a, b, by omega⟩⟩
theorem vdo_err2 (o : Op5) (t : Th) (ws : List Int) (h5 : t.regs.getD 5 0 = 0) (hl : ws.length = 6) (hk : 1 ≤ o.k ∧ o.k ≤ 17) (hw : o.k = 13 ∨ o.k = 14 ∨ o.k = 15 → o.b = 5 ∧ 0 ≤ o.c ∧ o.c < 6) : (vdo o t ws).1.err = t.err ∨ (vdo o t ws).1.err = 8 := by
  unfold vdo
  simp only
  iterate 9 (split; exact .inl rfl)
  unfold vother
  simp only
  split
  · exact .inl rfl
  · split
    · split <;> exact .inl rfl
    · split
      · split <;> exact .inl rfl
      · split
        · split
          · exact .inr rfl
          · exact .inl rfl
        · split
          · exact .inl rfl
          · have h13 : o.k = 13 ∨ o.k = 14 ∨ o.k = 15 := by omega
            obtain ⟨b5, c0, c6⟩ := hw h13
            have e : wrap64 (vget t.regs o.b + o.c) = o.c := by
              rw [b5]; unfold vget
              rw [show (5 : Int).toNat = 5 from rfl, h5, Int.zero_add]
              exact IntWalk.wrap64_in _ ⟨by omega, by omega⟩
            rw [e, if_neg (by rw [hl]; omega)]
            repeat' split
            all_goals exact .inl rfl
theorem vrun_err2 (code : List Op5) (hc : CodeD code) : ∀ (n : Nat) (s : Th × List Int), s.1.regs.getD 5 0 = 0 → s.2.length = 6 → (s.1.err = 0 ∨ s.1.err = 8) → ((vrun code n s).1.err = 0 ∨ (vrun code n s).1.err = 8)
  | 0, s, _, _, h => h
  | n + 1, s, h5, hl, h => by
    unfold vrun
    split
    · exact h
    · have hj := vstep_words code hc.inn (6 : Nat) (fun o ho hq => by obtain ⟨_, c0, c6⟩ := hc.word o ho (by omega); omega) s.1 s.2 h5
      refine vrun_err2 code hc n _ hj.2.2 (hj.2.1.trans hl) ?_
      unfold vstep
      split
      · exact h
      · split
        · exact h
        · rename_i o ho
          have hm := List.mem_of_getElem? ho
          have e := vdo_err2 o { s.1 with pc := s.1.pc + 1 } s.2 h5 hl (hc.opin o hm).1 (hc.word o hm)
          rcases e with e | e
          · show (vdo o { s.1 with pc := s.1.pc + 1 } s.2).1.err = 0 ∨ (vdo o { s.1 with pc := s.1.pc + 1 } s.2).1.err = 8
            rw [e]; exact h
          · exact .inr e
theorem vbegin_five (n : Nat) (args : List Int) (h : args.length ≤ 4) : (vbegin n args).regs.getD 5 0 = 0 := by
  unfold vbegin
  rw [List.getD_eq_getElem?_getD, List.getElem?_append_right (by omega), List.getElem?_replicate, if_pos (by omega)]; rfl
theorem vres_d (code : List Op5) (hc : CodeD code) (args ws : List Int) (ha : args.length ≤ 4) (hw : ws.length = 6) (L : Nat) : (verr (vres code args ws L).1 = 0 ∨ verr (vres code args ws L).1 = 8 ∨ verr (vres code args ws L).1 = 11) ∧ (vres code args ws L).2.length = 6 := by
  have h5 := vbegin_five code.length args ha
  refine ⟨?_, ?_⟩
  · unfold verr
    split
    · rcases vrun_err2 code hc L (vbegin code.length args, ws) h5 hw (.inl rfl) with e | e
      · left; unfold vres; rw [e]; rfl
      · right; left; unfold vres; rw [e]; rfl
    · exact .inr (.inr rfl)
  · have := (vrun_words code hc.inn 6 (fun o ho hq => by obtain ⟨_, c0, c6⟩ := hc.word o ho (by omega); omega) L (vbegin code.length args, ws) h5).2
    unfold vres; rw [this]; exact hw
/-- which words the first k instructions store to -/
def stOf (o : Op5) (j : Nat) : Bool := (o.k == 14 || o.k == 15) && o.c == (j : Int)
def stk (code : List Op5) (k : Nat) : List Bool := (List.range 6).map fun j => (code.take k).any fun o => stOf o j
theorem stk_len (code : List Op5) (k : Nat) : (stk code k).length = 6 := by unfold stk; simp
theorem stk_at (code : List Op5) (k j : Nat) (h : j < 6) : (stk code k)[j]? = some ((code.take k).any fun o => stOf o j) := by
  unfold stk; rw [List.getElem?_map, List.getElem?_range h]; rfl
theorem stk_zero (code : List Op5) : stk code 0 = List.replicate 6 false := by
  unfold stk; simp; rfl
theorem stk_no (code : List Op5) (k : Nat) (o : Op5) (hk : code[k]? = some o) (h : (o.k == 14 || o.k == 15) = false) : stk code (k + 1) = stk code k := by
  refine List.ext_getElem? fun j => ?_
  by_cases hj : j < 6
  · rw [stk_at _ _ _ hj, stk_at _ _ _ hj, take_next hk, List.any_append]
    simp [stOf, h]
  · rw [List.getElem?_eq_none (by rw [stk_len]; omega), List.getElem?_eq_none (by rw [stk_len]; omega)]
theorem stk_yes (code : List Op5) (k c : Nat) (o : Op5) (hk : code[k]? = some o) (h : (o.k == 14 || o.k == 15) = true) (hc : o.c = (c : Int)) (h6 : c < 6) : stk code (k + 1) = (stk code k).set c true := by
  refine List.ext_getElem? fun j => ?_
  by_cases hj : j < 6
  · rw [stk_at _ _ _ hj, take_next hk, List.any_append, List.getElem?_set, stk_len]
    by_cases e : c = j
    · subst e; rw [if_pos rfl, if_pos hj]; simp [stOf, h, hc]
    · rw [if_neg e, stk_at _ _ _ hj]
      have : stOf o j = false := by
        unfold stOf; rw [h, hc]; simp; omega
      simp [this]
  · rw [List.getElem?_eq_none (by rw [stk_len]; omega), List.getElem?_eq_none (by rw [List.length_set, stk_len]; omega)]
theorem stk_false (code : List Op5) (j : Nat) (hj : j < 6) (h : (stk code code.length)[j]? = some false) : ∀ o ∈ code, o.k = 14 ∨ o.k = 15 → o.c.toNat ≠ j ∨ o.c < 0 := by
  intro o ho hk
  rw [stk_at _ _ _ hj, List.take_length] at h
  injection h with h
  rw [List.any_eq_false] at h
  have := h o ho
  unfold stOf at this
  have hkk : (o.k == 14 || o.k == 15) = true := by rcases hk with e | e <;> rw [e] <;> rfl
  rw [hkk] at this
  simp at this
  omega
abbrev gBo : Bool → List Value := fun b => [.bool b]
theorem mk6b (w : World) : (Instr.makeSlice 33 (.int .i64 6) (.int .i64 6)).run Tryd.prog w = .ok (.slice (some ⟨w.heap.size, 0, none⟩) 6 6) (w.alloc (.cells #[.bool false, .bool false, .bool false, .bool false, .bool false, .bool false] 4)) := by
  have h := run_make_row' (P := Tryd.prog) 33 4 (.bool false) 1 Tryd.underlying33 (by kernel_rfl) rfl .i64 .i64 6 (by omega) (by omega) w
  rw [show madeCells #[Value.bool false] 6 = #[.bool false, .bool false, .bool false, .bool false, .bool false, .bool false] from by apply Array.ext'; rw [Go.toList_madeCells_one]; rfl] at h
  exact h
theorem bools_ow (w : World) : Ow w (w.alloc (.cells #[.bool false, .bool false, .bool false, .bool false, .bool false, .bool false] 4)) 4 1 gBo (.slice (some ⟨w.heap.size, 0, none⟩) 6 6) (List.replicate 6 false) :=
  ⟨⟨rfl, .inr ⟨w.heap.size, 6, _, rfl, Nat.le_refl _, Blk.new w _ _, Nat.le_refl _, by simp [maxLen], rfl, rfl⟩⟩, bnew (bnil w) _⟩
theorem Ow.cellBo {w0 w : World} {e : TypeId} {b n c i : Nat} {l : List Bool} {x : Bool} (h : Ow w0 w e 1 gBo (.slice (some ⟨b, 0, none⟩) n c) l) (hi : l[i]? = some x) : w.cell? ⟨b, i, none⟩ = some (.bool x) ∧ w.frozen? ⟨b, i, none⟩ = false := by
  have hl : i < l.length := (List.getElem?_eq_some_iff.1 hi).1
  obtain ⟨b', cur, hA, rfl, hb, hk, hs, hc, ht⟩ := h.row (by omega)
  injection hA with hA; injection hA with hA; subst hA
  refine ⟨?_, hk.frozen i⟩
  have h1 := flatMap_at gBo 1 (fun _ => rfl) l i 0 x hi (by decide)
  rw [Nat.mul_one, Nat.add_zero] at h1
  rw [hk.cell i, ← Array.getElem?_toList]
  rw [← ht, List.getElem?_take, if_pos hl] at h1
  exact h1
theorem Ow.setBo {w0 w : World} {e : TypeId} {b n c i : Nat} {l : List Bool} (h : Ow w0 w e 1 gBo (.slice (some ⟨b, 0, none⟩) n c) l) (hi : i < l.length) (x : Bool) : Ow w0 (w.setCell ⟨b, i, none⟩ (.bool x)) e 1 gBo (.slice (some ⟨b, 0, none⟩) n c) (l.set i x) := Ow.set (f := Value.bool) h hi x
set_option maxHeartbeats 4000000 in
set_option maxRecDepth 100000 in
theorem law_vmWords (A : Option Addr) (n c : Nat) (ls : List Op5) (D : Option Addr) (r s : Nat) (ds : List Int) (a : Int) (w : World)
    (hn : n ≤ c) (hc : c ≤ maxLen) (_ : c * 40 ≤ 140737488351232) (hA : Sl w 5 A n (ls.flatMap gO)) (hls : ∀ x ∈ ls, LineOk x)
    (hr : r ≤ s) (hs : s ≤ maxLen) (_ : s * 8 ≤ 140737488351232) (hD : Sl w 1 D r (ints ds)) (hds : ∀ x ∈ ds, -9223372036854775808 ≤ x ∧ x ≤ 9223372036854775807)
    (ha : -9223372036854775808 ≤ a) (ha1 : a ≤ 9223372036854775807) (hT : STab w) :
    Calls Tryd.prog 4 #[.slice A n c, .slice D r s, .int .i64 a] w fun e w' => e = .returned (.bool true) ∧ Below w.heap.size w w' := by
  have HA := hid (Lines.mk hA hls); have HD := hid hD; have HDS := hid hds; have HT := hid hT
  have HDL := hid hD.leni
  clear hA hls hD hds hT
  have HS := hid hs; clear hs
  go_enter Tryd.func4, Tryd.ntmps4
  go_wp2_with fail
  refine (code_of A n c 40 ls w hn hc (by decide) HA.out).mono ?_
  rintro e w1 ⟨v, rfl, ho⟩
  obtain ⟨Ac, cc, rfl, hcc, _⟩ := ho.form
  have HC := hid (CodeAt.of ho)
  have HCD := hid (codeOf_d ls 40)
  have B1 := hid ho.below
  have hcl : (codeOf ls 40).length ≤ 40 := by rw [codeOf_len]; omega
  clear ho
  generalize codeOf ls 40 = code at *
  obtain ⟨nc, hnc⟩ : ∃ nc, code.length = nc := ⟨_, rfl⟩
  rw [hnc] at HC hcc hcl ⊢
  have HNC := hid hnc; clear hnc
  have hmk := mk6b
  go_upto_block 0 with fail
  clear hmk
  obtain ⟨b1, hb1⟩ : ∃ b1, w1.heap.size = b1 := ⟨_, rfl⟩
  have HS0 := hid (bools_ow w1)
  rw [hb1] at HS0 ⊢
  have HB1 := hid hb1; clear hb1
  go_cut [8] (fun v wr => v = .slice (some ⟨b1, 0, none⟩) 6 6 ∧ Hid (Ow w1 wr 4 1 gBo (.slice (some ⟨b1, 0, none⟩) 6 6) (stk code nc)))
  case first =>
    go_wp2_with fail
    go_loopw [9] (fun i wr => ∃ (k : Nat), k ≤ nc ∧ i = .int .i64 k ∧ Hid (Ow w1 wr 4 1 gBo (.slice (some ⟨b1, 0, none⟩) 6 6) (stk code k))) (fun i _ => nc - (intOf i).toNat)
    case atStart => exact ⟨0, Nat.zero_le _, rfl, by rw [stk_zero]; exact HS0⟩
    case round =>
      obtain ⟨k, hk, rfl, HO⟩ := hrel
      by_cases hlt : k < nc
      · have i1 : (k : Int) < (nc : Int) := by omega
        obtain ⟨ad, o, rfl, hx, d1, d2, d3, d4, d5⟩ := (HC.out.below HO.out.below).sl.opAt hlt
        have hw := HCD.out.word o (List.mem_of_getElem? hx)
        cases hq : (o.k == 14 || o.k == 15)
        · have HE := hid (stk_no code k o hx hq)
          simp only [Bool.or_eq_false_iff] at hq
          obtain ⟨hq1, hq2⟩ := hq
          clear hw hx
          go_wp2
          go_roundw
          case rel => exact ⟨k + 1, by omega, by go_num, by rw [HE.out]; exact HO⟩
          case measure => simp [intOf]; omega
        · have hq' : o.k = 14 ∨ o.k = 15 := by simpa using hq
          obtain ⟨_, w0, w6⟩ := hw (by omega)
          obtain ⟨j, hj, ej⟩ := nat_of (n := 6) (x := o.c) ⟨w0, w6⟩
          have HE := hid (stk_yes code k j o hx hq ej hj)
          rw [ej] at d4
          obtain ⟨old, hold⟩ : ∃ old, (stk code k)[j]? = some old := ⟨_, stk_at code k j hj⟩
          obtain ⟨cy, fy⟩ := HO.out.cellBo hold
          have HN := hid (HO.out.setBo (show j < (stk code k).length by rw [stk_len]; exact hj) true)
          have hj6 : (j : Int) < 6 := by omega
          clear hw hx hold ej w0 w6
          rcases hq' with e14 | e15
          · rw [e14] at d1
            clear hq e14
            go_wp2
            go_roundw
            case rel => exact ⟨k + 1, by omega, by go_num, by rw [HE.out]; exact HN⟩
            case measure => simp [intOf]; omega
          · rw [e15] at d1
            clear hq e15
            go_wp2
            go_roundw
            case rel => exact ⟨k + 1, by omega, by go_num, by rw [HE.out]; exact HN⟩
            case measure => simp [intOf]; omega
      · obtain rfl : k = nc := by omega
        go_wp2
        go_meet
        exact ⟨rfl, HO⟩
  case rest =>
    obtain ⟨rfl, HO1⟩ := hcut
    obtain ⟨w2, hw2⟩ : ∃ w2, w2 = wc := ⟨_, rfl⟩
    subst hw2
    have hmk := mk6
    go_upto_block 2 with fail
    clear hmk
    obtain ⟨b2, hb2⟩ : ∃ b2, w2.heap.size = b2 := ⟨_, rfl⟩
    have HO0 := hid (ints_ow w2)
    rw [hb2] at HO0 ⊢
    have HB2 := hid hb2; clear hb2
    go_cut [10] (fun v wr => v = .slice (some ⟨b2, 0, none⟩) 6 6 ∧ Hid (Ow w2 wr 3 1 gI (.slice (some ⟨b2, 0, none⟩) 6 6) (padk ds (min 6 r))))
    case first =>
      go_wp2_with fail
      go_loopw [11] (fun i wr => ∃ (k : Nat), k ≤ 6 ∧ k ≤ r ∧ i = .int .i64 k ∧ Hid (Ow w2 wr 3 1 gI (.slice (some ⟨b2, 0, none⟩) 6 6) (padk ds k))) (fun i _ => 6 - (intOf i).toNat)
      case atStart => exact ⟨0, Nat.zero_le _, Nat.zero_le _, rfl, by rw [padk_zero]; exact HO0⟩
      case round =>
        obtain ⟨k, hk, hkr, rfl, HO⟩ := hrel
        by_cases h6 : k < 6
        · have i1 : (k : Int) < 6 := by omega
          by_cases hlt : k < r
          · have i2 : (k : Int) < (r : Int) := by omega
            obtain ⟨ad, x, rfl, hx, cx⟩ := (((HD.out.below B1.out).below HO1.out.below).below HO.out.below).ati hlt
            have hp0 := padk_len ds k (by rw [HDL.out]; omega) (by omega)
            obtain ⟨old, hold⟩ : ∃ old, (padk ds k)[k]? = some old := ⟨_, List.getElem?_eq_getElem (by omega)⟩
            obtain ⟨cy, fy⟩ := HO.out.cellI hold
            have HN := hid (HO.out.setI (show k < (padk ds k).length by omega) x)
            have HE := hid (padk_step ds k x hx h6)
            clear hx hp0 hold
            go_wp2
            go_roundw
            case rel => exact ⟨k + 1, by omega, by omega, by go_num, by rw [HE.out]; exact HN⟩
            case measure => simp [intOf]; omega
          · have i2 : ¬ (k : Int) < (r : Int) := by omega
            have E := hid (show k = min 6 r by omega)
            go_wp2
            go_meet
            exact ⟨rfl, by rw [← E.out]; exact HO⟩
        · obtain rfl : k = 6 := by omega
          have E := hid (show 6 = min 6 r by omega)
          go_wp2
          go_meet
          exact ⟨rfl, by rw [← E.out]; exact HO⟩
    case rest =>
      obtain ⟨rfl, HO2⟩ := hcut
      obtain ⟨w3, hw3⟩ : ∃ w3, w3 = wc := ⟨_, rfl⟩
      subst hw3
      have hul : (padk ds (min 6 r)).length = 6 := padk_len _ _ (by rw [HDL.out]; omega) (by omega)
      generalize padk ds (min 6 r) = us at *
      have HUL := hid hul
      have BW := hid (show Below w.heap.size w w3 from bgo (bgo B1.out HO1.out.below) HO2.out.below)
      have HL0 := hid (show ([] : List Int) ++ us = us from List.nil_append us)
      have ON := hid (Ow.nil w3 3 1 gI)
      have hx0 := Int.emod_nonneg a (show (600 : Int) ≠ 0 by decide)
      have hx1 := Int.emod_lt_of_pos a (show (0 : Int) < 600 by decide)
      obtain ⟨X, hX⟩ : ∃ X : Nat, a % 600 = (X : Int) := ⟨(a % 600).toNat, by omega⟩
      have hXl : X < 600 := by omega
      have HX := hid hX
      clear hx0 hx1 hX hul HO0
      go_wp2_with (at_builtin; refine wpList_appY elmI gI_one rfl (.const (.slice none 0 0)) (.tmp 67) rfl (.slice none 0 0) [] rfl ON.out us us HL0 rfl HO2.out.sl HUL.out (by rw [HUL.out]; simp [maxLen]) (by rw [HUL.out]; decide) ?_; intro A4 c4 w4 hc4 hc5 HN1 _ _)
      refine (picked0 a 600 _ (by decide) ha ha1 (by decide)).mono ?_
      rintro e w9 ⟨rfl, rfl⟩
      rw [HX.out]
      obtain ⟨v1, v2⟩ := vres_d code HCD.out [] us (by simp) HUL.out X
      obtain ⟨N1, hN1⟩ : ∃ N1, vcount code X (vbegin code.length [], us) = N1 := ⟨_, rfl⟩
      have HJ := hid (show ∀ j, j < 6 → (stk code nc)[j]? = some false → (vres code [] us X).2[j]? = us[j]? by
        intro j hj hs
        have h1 := stk_false code j hj (by rw [HNC.out]; exact hs)
        have h2 := (vrun_words code HCD.out.inn j (fun o ho hq => by
          obtain ⟨_, c0, c6⟩ := HCD.out.word o ho (by omega)
          rcases h1 o ho hq with e | e
          · exact e
          · omega) X (vbegin code.length [], us) (vbegin_five _ _ (by simp))).1
        have h3 : (vres code [] us X).2.getD j 0 = us.getD j 0 := h2
        rw [List.getD_eq_getElem?_getD, List.getD_eq_getElem?_getD] at h3
        rw [List.getElem?_eq_getElem (by omega), List.getElem?_eq_getElem (by have := HUL.out; omega)] at h3 ⊢
        simpa using h3)
      obtain ⟨S1, hS1⟩ : ∃ S1, vres code [] us X = S1 := ⟨_, rfl⟩
      rw [hS1] at v1 v2 HJ
      obtain ⟨m1, hm1⟩ : ∃ m1, S1.1.told.length = m1 := ⟨_, rfl⟩
      obtain ⟨e1, he1⟩ : ∃ e1, verr S1.1 = e1 := ⟨_, rfl⟩
      rw [he1] at v1
      have V1 := hid v1
      have HN1' := hid hN1; have HS1 := hid hS1; have HM1 := hid hm1; have HE1 := hid he1; have HQ1 := hid v2
      clear v1 v2 hN1 hS1 hm1 he1
      have B4 := hid (bgo BW.out HN1.out.below)
      go_wp2_with fail
      refine (vm_runL S1 N1 m1 6 e1 HS1 HN1' HM1 HQ1 HE1 (by omega) (by omega) (by rw [HUL.out]; decide) (by omega) (HT.out.below B4.out) ((HC.out.below HO1.out.below).below HO2.out.below |>.below HN1.out.below) (Sl.nil _) HN1.out.sl).mono ?_
      rintro e w5 ⟨Bt, bt, Dt, dt, rfl, g1, g2, g3, g4, Ot, Pt⟩
      have B5 := hid (bgo B4.out Ot.out.below)
      go_wp2_with fail
      refine (vm_sure w5 (HT.out.below B5.out)).mono ?_
      rintro e w6 ⟨rfl, b6⟩
      have B6 := hid (bgo B5.out b6)
      have P6 := hid (Pt.out.step b6)
      have U6 := hid (((HO2.out.step HN1.out.below).step Ot.out.below).step b6)
      have ST6 := hid ((((HO1.out.step HO2.out.below).step HN1.out.below).step Ot.out.below).step b6)
      clear b6
      obtain ⟨bd, hbd⟩ : ∃ bd, Dt = some ⟨bd, 0, none⟩ := by
        obtain ⟨b', _, hA, _⟩ := P6.out.row (by rw [HQ1.out]; decide)
        exact ⟨b', hA⟩
      subst hbd
      rcases V1.out with e | e | e
      all_goals
        subst e
        go_wp2
        go_loopw [16] (fun i wr => ∃ (k : Nat), k ≤ 6 ∧ i = .int .i64 k ∧ Hid (Below w6.heap.size w6 wr)) (fun i _ => 6 - (intOf i).toNat)
        case atStart => exact ⟨0, Nat.zero_le _, rfl, hid (bnil _)⟩
        case round =>
          obtain ⟨k, hk, rfl, HB⟩ := hrel
          by_cases hlt : k < 6
          · have i1 : (k : Int) < 6 := by omega
            obtain ⟨bb, hbb⟩ : ∃ bb, (stk code nc)[k]? = some bb := ⟨_, List.getElem?_eq_getElem (by rw [stk_len]; exact hlt)⟩
            obtain ⟨x, hx⟩ : ∃ x, us[k]? = some x := ⟨_, List.getElem?_eq_getElem (by have := HUL.out; omega)⟩
            obtain ⟨c1, _⟩ := (ST6.out.step HB.out).cellBo hbb
            obtain ⟨c2, _⟩ := (U6.out.step HB.out).cellI hx
            have HHJ := hid (HJ.out k hlt)
            cases bb
            · obtain ⟨c3, _⟩ := (P6.out.step HB.out).cellI ((HHJ.out hbb).trans hx)
              have n1 : (x != x) = false := by simp
              clear hbb hx
              go_wp2
              go_region
              all_goals
                go_wp2
                go_roundw
                case rel => exact ⟨k + 1, by omega, by go_num, hid HB.out.drew⟩
                case measure => simp [intOf] <;> omega
            · clear hbb hx
              go_wp2
              go_region
              all_goals
                go_wp2
                go_roundw
                case rel => exact ⟨k + 1, by omega, by go_num, hid HB.out.drew⟩
                case measure => simp [intOf] <;> omega
          · obtain rfl : k = 6 := by omega
            go_wp2
            go_ret
            exact ⟨rfl, bgo B6.out HB.out⟩
end Go.Proofs.YtljdnbdmfhcmpaaDoor
