/-
  The machine of package vm in memory: Step, where it is other; Step whole.
-/
import Derived.Test.YtabmkjokeeakdaaDoorVmStep
namespace Go.Proofs.YtabmkjokeeakdaaDoor
open Go.RowKit
set_option linter.unusedVariables false

theorem SP.trans {B : Nat} {w a b : World} {g : Nat} {cv tv wv : Value} {t1 t2 : Th} {ws1 ws2 : List Int} (h1 : SP B w a g cv tv wv t1 ws1)
    (h2 : ∀ tv1, TH B a g cv t1 tv1 → WS B a wv ws1 → (tv1.ownBlock = tv.ownBlock ∨ ∃ k, tv1.ownBlock = some k ∧ w.heap.size ≤ k) → SP B a b g cv tv1 wv t2 ws2) : SP B w b g cv tv wv t2 ws2 := by
  obtain ⟨tv1, ha, hb, hc, hd⟩ := h1
  obtain ⟨tv2, he, hf, hg, hh⟩ := h2 tv1 ha hb hc
  refine ⟨tv2, he, hf, ?_, hd.trans hh fun i hi hm => ?_⟩
  · rcases hg with hg | ⟨k, hk, hle⟩
    · rw [hg]; exact hc
    · exact .inr ⟨k, hk, Nat.le_trans hd.size hle⟩
  · rcases hm with hm | hm | hm
    · exact .inl hm
    · rcases hc with hc | ⟨k, hk, hle⟩
      · exact .inr (.inl (by rw [← hc]; exact hm))
      · rw [hk] at hm; injection hm with hm; omega
    · exact .inr (.inr hm)
theorem SP.over {B : Nat} {w : World} {g : Nat} {cv tv wv : Value} {t : Th} {ws : List Int} (h : TH B w g cv t tv) (hw : WS B w wv ws) (ov : Bool) : SP B w (w.setCell ⟨g, 28, none⟩ (.bool ov)) g cv tv wv { t with over := ov } ws :=
  SP.same (t' := { t with over := ov }) h hw (h.blk.sov h.len ov) rfl h.len (Chg.set1 w g 28 _)
theorem TH.pcs {B : Nat} {w : World} {g : Nat} {cv tv wv : Value} {t : Th} {ws : List Int} (h : TH B w g cv t tv) (hw : WS B w wv ws) (o : Obj) :
    TH B (((w.setCell ⟨g, 25, none⟩ (.int .i64 ((t.pc : Int) + 1))).alloc o).drew) g cv { t with pc := t.pc + 1 } tv ∧ WS B (((w.setCell ⟨g, 25, none⟩ (.int .i64 ((t.pc : Int) + 1))).alloc o).drew) wv ws ∧ Chg (fun k => k = g) w (((w.setCell ⟨g, 25, none⟩ (.int .i64 ((t.pc : Int) + 1))).alloc o).drew) := by
  have hc : Chg (fun k => k = g) w (((w.setCell ⟨g, 25, none⟩ (.int .i64 ((t.pc : Int) + 1))).alloc o).drew) := ((Chg.set1 w g 25 _).alloc o).drew
  exact ⟨⟨(h.blk.spc h.len ((t.pc : Int) + 1)).alloc o, own_chg h.told hc (fun k hk e => own_ne_tb h.told h.blk (by rw [hk, e])), h.len⟩, own_chg hw hc (fun k hk e => own_ne_tb hw h.blk (by rw [hk, e])), hc⟩
set_option maxHeartbeats 2000000 in
set_option maxRecDepth 100000 in
theorem vs_other (B g n cn : Nat) (k a b c d : Int) (w : World) (A : Option Addr) (tv wv : Value) (t t2 : Th) (ws ws2 : List Int) (code : List Op5) (hk : 10 ≤ k ∧ k ≤ 17) (hn : n ≤ 200) (hop : code[t.pc]? = some ⟨k, a, b, c, d⟩) (hov : t.over = false)
    (hv : vother ⟨k, a, b, c, d⟩ { t with pc := t.pc + 1 } ws = (t2, ws2))
    (HC : ∀ w1, B ≤ w1.heap.size → TH B w1 g (.slice A n cn) { t with pc := t.pc + 1 } tv → WS B w1 wv ws → Calls Tryd.prog 80 #[.pointer (some ⟨g, 0, none⟩), opA k a b c d, wv] w1 fun e w' => e = .returned (.tuple #[]) ∧ SP B w1 w' g (.slice A n cn) tv wv t2 ws2)
    (hB : B ≤ w.heap.size) (hcd : Sl w 5 A n (code.flatMap gO)) (h : TH B w g (.slice A n cn) t tv) (hw : WS B w wv ws) :
    Calls Tryd.prog 61 #[.pointer (some ⟨g, 0, none⟩), wv] w fun e w' => e = .returned (.tuple #[]) ∧ SP B w w' g (.slice A n cn) tv wv (vstep code t ws).1 (vstep code t ws).2 := by
  have hlc : code.length = n := by have := hcd.1; rw [flatMap_len gO 5 (fun _ => rfl)] at this; omega
  have hpc : t.pc < n := by rw [← hlc]; exact (List.getElem?_eq_some_iff.1 hop).1
  obtain ⟨ad, o, rfl, ho, c1, c2, c3, c4, c5⟩ := hcd.opAt hpc
  rw [hop] at ho; injection ho with ho; subst ho
  simp only at c1 c2 c3 c4 c5
  have H := hid h; have HW := hid hw
  have l1 := h.blk.lt
  have HV : Hid (vstep code t ws = ({ t2 with over := t2.over || decide (t2.pc = n) }, ws2)) := hid (by
    unfold vstep
    rw [if_neg (by rw [hov]; decide), hop]
    have e : vdo ⟨k, a, b, c, d⟩ { t with pc := t.pc + 1 } ws = (t2, ws2) := by
      rw [← hv]; unfold vdo; simp only
      rw [if_neg (by omega), if_neg (by omega), if_neg (by omega), if_neg (by omega), if_neg (by omega), if_neg (by omega), if_neg (by omega), if_neg (by omega), if_neg (by omega)]
    simp only [e]
    rw [hlc])
  obtain ⟨c0, f0⟩ := h.blk.c0
  obtain ⟨cp, fp⟩ := h.blk.cpc h.len
  obtain ⟨co, fo⟩ := h.blk.cov h.len
  rw [hov] at co
  have HC' := hid HC
  have i1 : (t.pc : Int) < (n : Int) := by omega
  have k1 : (k == 1) = false := by simp; omega
  have k2 : (k == 2) = false := by simp; omega
  have k3 : (k == 3) = false := by simp; omega
  have k4 : (k == 4) = false := by simp; omega
  have k5 : (k == 5) = false := by simp; omega
  have k6 : (k == 6) = false := by simp; omega
  have k7 : (k == 7) = false := by simp; omega
  have k8 : (k == 8) = false := by simp; omega
  have k9 : (k == 9) = false := by simp; omega
  clear h hw hlc hop hov hcd HC hv hk
  have lad : (ad.add (t.pc * 5)).block < w.heap.size := World.block_lt_of_cell? w _ c1
  go_enter Tryd.func61, Tryd.ntmps61
  go_wp2
  go_region
  all_goals
    go_wp2_with fail
    obtain ⟨p1, p2, p3⟩ := H.out.pcs HW.out (Obj.cells #[.int .i64 k, .int .i64 a, .int .i64 b, .int .i64 c, .int .i64 d] 99)
    have P3 := hid p3
    refine (HC'.out _ (Nat.le_trans hB p3.size) p1 p2).mono ?_
    clear p1 p2 p3
    rintro e w2 ⟨rfl, tv2, q1, q2, q3, q4⟩
    have Q1 := hid q1; have Q2 := hid q2; have Q3 := hid q3
    have Q4 := hid (show SP B w w2 g (.slice (some ad) n cn) tv wv t2 ws2 from ⟨tv2, q1, q2, by rcases q3 with q3 | ⟨k', hk', hle⟩; exact .inl q3; exact .inr ⟨k', hk', Nat.le_trans P3.out.size hle⟩, (P3.out.wider (fun _ e => .inl e)).trans q4 (fun _ _ h => h)⟩)
    obtain ⟨d0, _⟩ := q1.blk.c0
    obtain ⟨dp, _⟩ := q1.blk.cpc q1.len
    obtain ⟨do_, fo2⟩ := q1.blk.cov q1.len
    clear q1 q2 q3 q4 c0 f0 cp fp co fo c1 c2 c3 c4 c5 lad
    cases hov2 : t2.over
    · rw [hov2] at do_
      by_cases hE : t2.pc = n
      · have e1 : ((t2.pc : Int) == (n : Int)) = true := by simp; omega
        go_wp2
        go_region
        all_goals
          go_wp2
          go_end0
          refine ⟨rfl, ?_⟩
          have ee : (false || decide (t2.pc = n)) = true := by simp [hE]
          rw [HV.out, hov2, ee]
          refine Q4.out.trans fun tv3 r1 r2 r3 => ?_
          refine SP.drew ?_
          exact SP.over r1 r2 true
      · have e1 : ((t2.pc : Int) == (n : Int)) = false := by simp; omega
        go_wp2
        go_region
        all_goals
          go_wp2
          go_end0
          refine ⟨rfl, ?_⟩
          have ee : (false || decide (t2.pc = n)) = false := by simp [hE]
          rw [HV.out, hov2, ee]
          refine Q4.out.trans fun tv3 r1 r2 r3 => ?_
          refine SP.drew ?_
          exact SP.over r1 r2 false
    · rw [hov2] at do_
      go_wp2
      go_region
      all_goals
        go_wp2
        go_end0
        refine ⟨rfl, ?_⟩
        rw [HV.out, hov2, Bool.true_or]
        refine Q4.out.trans fun tv3 r1 r2 r3 => ?_
        refine SP.drew ?_
        exact SP.over r1 r2 true
theorem vset_vget (ws : List Int) (x : Int) : vset ws x (vget ws x) = ws := by
  unfold vset vget
  refine List.ext_getElem? fun j => ?_
  rw [List.getElem?_set]
  split
  · rename_i e
    rw [List.getD_eq_getElem?_getD, ← e]
    cases h : ws[x.toNat]? with
    | none => rw [if_neg (by have := List.getElem?_eq_none_iff.1 h; omega)]
    | some u => rw [if_pos (List.getElem?_eq_some_iff.1 h).1]; rfl
  · rfl
set_option maxRecDepth 100000 in
theorem vs_over (B g : Nat) (w : World) (cv tv wv : Value) (t : Th) (ws : List Int) (hov : t.over = true) (h : TH B w g cv t tv) (hw : WS B w wv ws) :
    Calls Tryd.prog 61 #[.pointer (some ⟨g, 0, none⟩), wv] w fun e w' => e = .returned (.tuple #[]) ∧ SP B w w' g cv tv wv t ws := by
  have H := hid h; have HW := hid hw
  obtain ⟨co, fo⟩ := h.blk.cov h.len
  rw [hov] at co
  clear h hw
  go_enter Tryd.func61, Tryd.ntmps61
  go_wp2
  refine bodyPost_ret (results_none rfl _ _ _) rfl ?_
  exact ⟨rfl, tv, H.out, HW.out, .inl rfl, Chg.refl _ w⟩
/-- what a thread between steps is like -/
structure VI (code : List Op5) (t : Th) : Prop where
  told : t.told.length ≤ 200
  pc : t.over = false → t.pc < code.length
theorem vm_step (B g n cn : Nat) (w : World) (A : Option Addr) (tv wv : Value) (t : Th) (ws : List Int) (code : List Op5) (hn : n ≤ 200) (hok : ∀ o ∈ code, OpOk n o) (hv : VI code t) (hB : B ≤ w.heap.size)
    (hap : ∀ k, tv.ownBlock = some k → wv.ownBlock ≠ some k) (hcd : Sl w 5 A n (code.flatMap gO)) (h : TH B w g (.slice A n cn) t tv) (hw : WS B w wv ws) :
    Calls Tryd.prog 61 #[.pointer (some ⟨g, 0, none⟩), wv] w fun e w' => e = .returned (.tuple #[]) ∧ SP B w w' g (.slice A n cn) tv wv (vstep code t ws).1 (vstep code t ws).2 := by
  cases hov : t.over
  · have hpc := hv.pc hov
    obtain ⟨⟨k, a, b, c, d⟩, hop⟩ : ∃ o, code[t.pc]? = some o := ⟨_, List.getElem?_eq_getElem hpc⟩
    have ho := hok _ (List.mem_of_getElem? hop)
    obtain ⟨ok, oa, oap, ob, obp, oc, od⟩ := ho
    simp only at ok oa oap ob obp oc od
    by_cases hk10 : 10 ≤ k
    · by_cases h10 : k = 10
      · subst h10
        obtain ⟨a, ha, rfl⟩ : ∃ i : Nat, i ≤ n ∧ a = (i : Int) := ⟨a.toNat, by have := oap rfl; omega, by have := oap rfl; omega⟩
        exact vs_other B g n cn 10 a b c d w A tv wv t _ ws _ code (by omega) hn hop hov rfl (fun w1 hB1 h1 hw1 => vo_jump B g a b c d w1 _ tv wv _ ws h1 hw1) hB hcd h hw
      · by_cases h17 : k = 17
        · subst h17
          exact vs_other B g n cn 17 a b c d w A tv wv t _ ws _ code (by omega) hn hop hov rfl (fun w1 hB1 h1 hw1 => vo_done B g a b c d w1 _ tv wv _ ws h1 hw1) hB hcd h hw
        · obtain ⟨a, ha, rfl⟩ := nat_of (n := 24) (oa h10 h17)
          by_cases h11 : k = 11
          · subst h11
            obtain ⟨b, hb, rfl⟩ : ∃ i : Nat, i ≤ n ∧ b = (i : Int) := ⟨b.toNat, by have := obp (.inl rfl); omega, by have := obp (.inl rfl); omega⟩
            exact vs_other B g n cn 11 a b c d w A tv wv t _ ws _ code (by omega) hn hop hov rfl (fun w1 hB1 h1 hw1 => vo_when B g a b c d w1 _ tv wv _ ws ha h1 hw1) hB hcd h hw
          · by_cases h12 : k = 12
            · subst h12
              obtain ⟨b, hb, rfl⟩ : ∃ i : Nat, i ≤ n ∧ b = (i : Int) := ⟨b.toNat, by have := obp (.inr rfl); omega, by have := obp (.inr rfl); omega⟩
              exact vs_other B g n cn 12 a b c d w A tv wv t _ ws _ code (by omega) hn hop hov rfl (fun w1 hB1 h1 hw1 => vo_unless B g a b c d w1 _ tv wv _ ws ha h1 hw1) hB hcd h hw
            · by_cases h16 : k = 16
              · subst h16
                exact vs_other B g n cn 16 a b c d w A tv wv t _ ws _ code (by omega) hn hop hov rfl (fun w1 hB1 h1 hw1 => vo_emit B g a b c d w1 _ tv wv _ ws ha hB1 hv.told hap h1 hw1) hB hcd h hw
              · have hk : k = 13 ∨ k = 14 ∨ k = 15 := by omega
                obtain ⟨b, hb, rfl⟩ := nat_of (n := 24) (ob (.inr (by omega)))
                obtain ⟨Aw, cw, rfl, _, _⟩ := own_form hw
                have E : vother ⟨k, a, b, c, d⟩ { t with pc := t.pc + 1 } ws = if wrap64 (vget t.regs b + c) < 0 ∨ (ws.length : Int) ≤ wrap64 (vget t.regs b + c) then ({ t with pc := t.pc + 1, err := 2, over := true }, ws) else ({ t with pc := t.pc + 1, regs := (vword k a d t.regs (vget ws (wrap64 (vget t.regs b + c)))).1 }, vset ws (wrap64 (vget t.regs b + c)) (vword k a d t.regs (vget ws (wrap64 (vget t.regs b + c)))).2) := by
                  unfold vother
                  simp only
                  rw [if_neg h10, if_neg h11, if_neg h12, if_neg h16, if_neg h17]
                  split
                  · rfl
                  · rename_i hin
                    unfold vword
                    rcases hk with rfl | rfl | rfl
                    · simp only [if_true, vset_vget]
                    · rfl
                    · simp only [show ((15 : Int) = 13) = False from eq_false (by decide), show ((15 : Int) = 14) = False from eq_false (by decide), if_false]
                      split
                      · rfl
                      · rw [vset_vget]
                by_cases hin : wrap64 (vget t.regs b + c) < 0 ∨ (ws.length : Int) ≤ wrap64 (vget t.regs b + c)
                · rw [if_pos hin] at E
                  exact vs_other B g n cn k a b c d w A tv _ t _ ws _ code (by omega) hn hop hov E (fun w1 hB1 h1 hw1 => vo_out k hk B g b a c d w1 _ tv Aw cw _ ws hb h1 hw1 hin) hB hcd h hw
                · rw [if_neg hin] at E
                  obtain ⟨q, hq, e⟩ := nat_of (n := ws.length) (x := wrap64 (vget t.regs b + c)) (by omega)
                  rw [e] at E
                  exact vs_other B g n cn k a b c d w A tv _ t _ ws _ code (by omega) hn hop hov E (fun w1 hB1 h1 hw1 => vo_word k hk B g a b q c d w1 _ tv Aw cw _ ws ha hb (fun h15 => nat_of (n := 24) (od h15)) h1 hw1 hap e hq) hB hcd h hw
    · obtain ⟨a, ha, rfl⟩ := nat_of (n := 24) (oa (by omega) (by omega))
      by_cases h1 : k = 1
      · subst h1; exact vs_set B g n cn a b c d w A tv wv t ws code ha hn hop hov hcd h hw
      · obtain ⟨b, hb, rfl⟩ := nat_of (n := 24) (ob (.inl (by omega)))
        by_cases h2 : k = 2
        · subst h2; exact vs_copy B g n cn a b c d w A tv wv t ws code ha hb hn hop hov hcd h hw
        · obtain ⟨c, hc, rfl⟩ := nat_of (n := 24) (oc (by omega))
          have hk : k = 3 ∨ k = 4 ∨ k = 5 ∨ k = 6 ∨ k = 7 ∨ k = 8 ∨ k = 9 := by omega
          rcases hk with rfl | rfl | rfl | rfl | rfl | rfl | rfl
          · exact vs_add B g n cn a b c d w A tv wv t ws code ha hb hc hn hop hov hcd h hw
          · exact vs_sub B g n cn a b c d w A tv wv t ws code ha hb hc hn hop hov hcd h hw
          · exact vs_mul B g n cn a b c d w A tv wv t ws code ha hb hc hn hop hov hcd h hw
          · exact vs_div B g n cn a b c d w A tv wv t ws code ha hb hc hn hop hov hcd h hw
          · exact vs_rem B g n cn a b c d w A tv wv t ws code ha hb hc hn hop hov hcd h hw
          · exact vs_same B g n cn a b c d w A tv wv t ws code ha hb hc hn hop hov hcd h hw
          · exact vs_less B g n cn a b c d w A tv wv t ws code ha hb hc hn hop hov hcd h hw
  · refine (vs_over B g w (.slice A n cn) tv wv t ws hov h hw).mono ?_
    rintro e w' ⟨h1, h2⟩
    refine ⟨h1, ?_⟩
    unfold vstep
    rw [if_pos hov]
    exact h2
end Go.Proofs.YtabmkjokeeakdaaDoor
