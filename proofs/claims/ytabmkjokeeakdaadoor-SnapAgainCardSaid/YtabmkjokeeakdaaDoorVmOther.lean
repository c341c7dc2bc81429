/-
  The machine of package vm in memory: the walk of other.
-/
import Derived.Test.YtabmkjokeeakdaaDoorVm
namespace Go.Proofs.YtabmkjokeeakdaaDoor
open Go.RowKit
set_option linter.unusedVariables false

/-- a thread in memory: its block, and the row of what it told -/
structure TH (B : Nat) (w : World) (g : Nat) (cv : Value) (t : Th) (tv : Value) : Prop where
  blk : Tb w g cv t.regs (t.pc : Int) tv (t.err : Int) t.over
  told : w.ownsRow B 3 1 tv t.told.length (t.told.flatMap gI)
  len : t.regs.length = 24
/-- words in memory -/
abbrev WS (B : Nat) (w : World) (wv : Value) (ws : List Int) : Prop := w.ownsRow B 3 1 wv ws.length (ws.flatMap gI)
/-- what a step leaves -/
def SP (B : Nat) (w w' : World) (g : Nat) (cv : Value) (tv wv : Value) (t' : Th) (ws' : List Int) : Prop :=
  ∃ tv', TH B w' g cv t' tv' ∧ WS B w' wv ws' ∧ (tv'.ownBlock = tv.ownBlock ∨ ∃ k, tv'.ownBlock = some k ∧ w.heap.size ≤ k) ∧ Chg (fun k => k = g ∨ tv.ownBlock = some k ∨ wv.ownBlock = some k) w w'
theorem step_app1 {P : Program} {w : World} {t e : TypeId} {sz bytes : Nat} (E : Elm P t e sz bytes) {α : Type} {g : α → List Value} (hg : ∀ x, ∀ u ∈ g x, u.oneCell' = true) {ops : Array Oper} {o : Oper} {a : Act} {K : Act → World → Prop} {Q : Exit → Act → World → Prop} {D : Prop} (hw : Region.wanted o (yielded ops a.tmps) = true) (s x : Operand)
    (ho : o.op = .call { callee := .builtin .append, args := #[s, x], argTypes := #[t, t] })
    {base : Nat} (v : Value) (l : List α) (hs : a.eval s = v) (hown : w.ownsRow base e sz v l.length (l.flatMap g))
    {A : Option Addr} {n c : Nat} (m y : List α) (hy : Hid (l ++ m = y)) (hx : a.eval x = .slice A n c) (hr : Sl w sz A n (m.flatMap g)) (hn : m.length = n)
    (h63 : y.length ≤ maxLen) (hbytes : y.length * bytes ≤ 140737488355328) (hbase : base ≤ w.heap.size)
    (h : ∀ A' c' w', y.length ≤ c' → c' ≤ maxLen → Hid (w'.ownsRow base e sz (.slice A' y.length c') y.length (y.flatMap g)) → Hid (w.grownBy w' v.ownBlock) → Hid ((Value.slice A' y.length c').ownBlock = v.ownBlock ∨ (Value.slice A' y.length c').ownBlock = some w.heap.size) → K (a.put o.dst (.slice A' y.length c')) w') :
    if Region.wanted o (yielded ops a.tmps) = true then Oper.wp P o a w K Q else D := by
  rw [if_pos hw]
  have hy' : l ++ m = y := hy
  subst hy'
  subst hn
  rw [List.length_append] at h63 hbytes
  obtain ⟨i, z, hi, hz, hz1, hz2, hz3⟩ := E.ex
  refine wp_append_sl w s x t ho base e i z sz bytes E.ht hi hz hz1 hz2 hz3 E.pos v l.length (l.flatMap g) hs hown A m.length c (m.flatMap g) hx hr (flat_one g hg m) h63 hbytes hbase fun v' w' h1 h2 h3 => ?_
  have h4 : w'.ownsRow base e sz v' (l ++ m).length ((l ++ m).flatMap g) := by rw [List.length_append, List.flatMap_append]; exact h1
  obtain ⟨A', c', rfl, hc1, hc2⟩ := own_form h4
  exact h A' c' w' hc1 hc2 h4 h2 h3
theorem own_ne_tb {w : World} {B sz g : Nat} {v : Value} {n : Nat} {xs : List Value} {cs : Array Value} (h : w.ownsRow B 3 sz v n xs) (hg : Blk w g 97 cs) : v.ownBlock ≠ some g := own_ne_blk h hg (by decide)
section
variable {B : Nat} {w w' : World} {g : Nat} {cv tv wv : Value} {t : Th} {ws : List Int}
theorem TH.chg {M : Nat → Prop} (h : TH B w g cv t tv) (hc : Chg M w w') (hg : ¬ M g) (ht : ∀ k, tv.ownBlock = some k → ¬ M k) : TH B w' g cv t tv :=
  ⟨hc.blk h.blk hg, own_chg h.told hc ht, h.len⟩
theorem Chg.wider {M M' : Nat → Prop} {a b : World} (h : Chg M a b) (hM : ∀ k, M k → M' k) : Chg M' a b := ⟨h.os, h.tape, h.output, h.size, fun i hi hn => h.block i hi fun e => hn (hM i e)⟩
theorem SP.same {t' : Th} (h : TH B w g cv t tv) (hw : WS B w wv ws) (hb : Tb w' g cv t'.regs (t'.pc : Int) tv (t'.err : Int) t'.over) (ht : t'.told = t.told) (hl : t'.regs.length = 24) (hc : Chg (fun k => k = g) w w') : SP B w w' g cv tv wv t' ws :=
  ⟨tv, ⟨hb, by rw [ht]; exact own_chg h.told hc (fun k hk e => own_ne_tb h.told h.blk (by rw [hk, e])), hl⟩, own_chg hw hc (fun k hk e => own_ne_tb hw h.blk (by rw [hk, e])), .inl rfl, hc.wider (fun _ e => .inl e)⟩
theorem SP.grow {w0 w4 : World} {tv2 : Value} {y : List Int} (h : TH B w g cv t tv) (hw : WS B w wv ws) (hap : ∀ k, tv.ownBlock = some k → wv.ownBlock ≠ some k) (h1 : Chg (fun _ => False) w w0) (hg : w0.grownBy w4 tv.ownBlock)
    (hn : w4.ownsRow B 3 1 tv2 y.length (y.flatMap gI)) (hk : tv2.ownBlock = tv.ownBlock ∨ tv2.ownBlock = some w0.heap.size) : SP B w (w4.setCell ⟨g, 26, none⟩ tv2) g cv tv wv { t with told := y } ws := by
  have hc : Chg (fun k => tv.ownBlock = some k) w w4 := (h1.wider (fun _ h => h.elim)).trans (Chg.of_grown hg (M := fun k => tv.ownBlock = some k) (fun k e => e)) (fun _ _ h => h)
  have hb : Tb w4 g cv t.regs (t.pc : Int) tv (t.err : Int) t.over := hc.blk h.blk (own_ne_tb h.told h.blk)
  have hs : Chg (fun k => k = g) w4 (w4.setCell ⟨g, 26, none⟩ tv2) := (Chg.refl (fun k => k = g) w4).setCell (p := ⟨g, 26, none⟩) (fun _ => rfl) _
  have hne := own_ne_tb hn hb
  refine ⟨tv2, ⟨hb.stv h.len tv2, own_chg hn hs (fun k hk e => hne (by rw [hk, e])), h.len⟩, ?_, ?_, ?_⟩
  · exact own_chg (own_chg hw hc (fun k hk e => hap k e hk)) hs (fun k hk e => own_ne_tb hw h.blk (by rw [hk, e]))
  · rcases hk with hk | hk
    · exact .inl hk
    · exact .inr ⟨_, hk, h1.size⟩
  · exact ⟨hs.os.trans hc.os, hs.tape.trans hc.tape, hs.output.trans hc.output, Nat.le_trans hc.size hs.size, fun i hi hn => (hs.block i (Nat.lt_of_lt_of_le hi hc.size) (fun e => hn (.inl e))).trans (hc.block i hi (fun e => hn (.inr (.inl e))))⟩
theorem Chg.set1 (w : World) (g i : Nat) (u : Value) : Chg (fun k => k = g) w (w.setCell ⟨g, i, none⟩ u) := (Chg.refl (fun k => k = g) w).setCell (p := ⟨g, i, none⟩) (fun _ => rfl) _
end
set_option maxHeartbeats 1000000 in
theorem vo_jump (B g a : Nat) (b c d : Int) (w : World) (cv tv wv : Value) (t : Th) (ws : List Int) (h : TH B w g cv t tv) (hw : WS B w wv ws) :
    Calls Tryd.prog 80 #[.pointer (some ⟨g, 0, none⟩), opA 10 (a : Int) b c d, wv] w fun e w' => e = .returned (.tuple #[]) ∧ SP B w w' g cv tv wv { t with pc := a } ws := by
  have H := hid h; have HW := hid hw
  have l1 := h.blk.lt
  have hne := hid (own_ne_tb h.told h.blk); have hnw := hid (own_ne_tb hw h.blk)
  obtain ⟨c1, f1⟩ := h.blk.cpc h.len
  clear h hw
  go_enter Tryd.func80, Tryd.ntmps80
  go_wp2
  go_end0
  exact ⟨rfl, SP.same H.out HW.out ((H.out.blk.spc H.out.len a).alloc _) rfl H.out.len ((Chg.set1 w g 25 _).alloc _)⟩
set_option maxHeartbeats 1000000 in
theorem vo_when (B g a b : Nat) (c d : Int) (w : World) (cv tv wv : Value) (t : Th) (ws : List Int) (ha : a < 24) (h : TH B w g cv t tv) (hw : WS B w wv ws) :
    Calls Tryd.prog 80 #[.pointer (some ⟨g, 0, none⟩), opA 11 (a : Int) (b : Int) c d, wv] w fun e w' => e = .returned (.tuple #[]) ∧ SP B w w' g cv tv wv (if vget t.regs a ≠ 0 then { t with pc := b } else t) ws := by
  have H := hid h; have HW := hid hw
  have l1 := h.blk.lt
  obtain ⟨c1, f1⟩ := h.blk.cpc h.len
  obtain ⟨c2, _⟩ := h.blk.creg h.len ha
  clear h hw
  by_cases h0 : vget t.regs (a : Int) = 0
  · rw [if_neg (fun e => e h0)]
    rw [h0] at c2
    clear h0
    go_enter Tryd.func80, Tryd.ntmps80
    go_wp2
    go_region
    all_goals
      go_wp2
      go_end0
      exact ⟨rfl, SP.same H.out HW.out (H.out.blk.alloc _) rfl H.out.len (((Chg.refl _ w).alloc _).drew)⟩
  · rw [if_pos h0]
    have e0 : (vget t.regs (a : Int) != 0) = true := by simp [h0]
    have e1 : (vget t.regs (a : Int) == 0) = false := by simp [h0]
    clear h0
    go_enter Tryd.func80, Tryd.ntmps80
    go_wp2
    go_region
    all_goals
      go_wp2
      go_end0
      exact ⟨rfl, SP.same H.out HW.out ((H.out.blk.spc H.out.len b).alloc _) rfl H.out.len (((Chg.set1 w g 25 _).alloc _).drew)⟩
set_option maxHeartbeats 1000000 in
theorem vo_unless (B g a b : Nat) (c d : Int) (w : World) (cv tv wv : Value) (t : Th) (ws : List Int) (ha : a < 24) (h : TH B w g cv t tv) (hw : WS B w wv ws) :
    Calls Tryd.prog 80 #[.pointer (some ⟨g, 0, none⟩), opA 12 (a : Int) (b : Int) c d, wv] w fun e w' => e = .returned (.tuple #[]) ∧ SP B w w' g cv tv wv (if vget t.regs a = 0 then { t with pc := b } else t) ws := by
  have H := hid h; have HW := hid hw
  have l1 := h.blk.lt
  obtain ⟨c1, f1⟩ := h.blk.cpc h.len
  obtain ⟨c2, _⟩ := h.blk.creg h.len ha
  clear h hw
  by_cases h0 : vget t.regs (a : Int) = 0
  · rw [if_pos h0]
    rw [h0] at c2
    clear h0
    go_enter Tryd.func80, Tryd.ntmps80
    go_wp2
    go_region
    all_goals
      go_wp2
      go_end0
      exact ⟨rfl, SP.same H.out HW.out ((H.out.blk.spc H.out.len b).alloc _) rfl H.out.len (((Chg.set1 w g 25 _).alloc _).drew)⟩
  · rw [if_neg h0]
    have e0 : (vget t.regs (a : Int) != 0) = true := by simp [h0]
    have e1 : (vget t.regs (a : Int) == 0) = false := by simp [h0]
    clear h0
    go_enter Tryd.func80, Tryd.ntmps80
    go_wp2
    go_region
    all_goals
      go_wp2
      go_end0
      exact ⟨rfl, SP.same H.out HW.out (H.out.blk.alloc _) rfl H.out.len (((Chg.refl _ w).alloc _).drew)⟩
set_option maxHeartbeats 1000000 in
theorem vo_done (B g : Nat) (a b c d : Int) (w : World) (cv tv wv : Value) (t : Th) (ws : List Int) (h : TH B w g cv t tv) (hw : WS B w wv ws) :
    Calls Tryd.prog 80 #[.pointer (some ⟨g, 0, none⟩), opA 17 a b c d, wv] w fun e w' => e = .returned (.tuple #[]) ∧ SP B w w' g cv tv wv { t with over := true } ws := by
  have H := hid h; have HW := hid hw
  have l1 := h.blk.lt
  obtain ⟨c1, f1⟩ := h.blk.cov h.len
  clear h hw
  go_enter Tryd.func80, Tryd.ntmps80
  go_wp2
  go_end0
  exact ⟨rfl, SP.same H.out HW.out ((H.out.blk.sov H.out.len true).alloc _) rfl H.out.len ((Chg.set1 w g 28 _).alloc _)⟩
set_option maxHeartbeats 1000000 in
theorem vo_emit (B g a : Nat) (b c d : Int) (w : World) (cv tv wv : Value) (t : Th) (ws : List Int) (ha : a < 24) (hB : B ≤ w.heap.size) (ht : t.told.length ≤ 200) (hap : ∀ k, tv.ownBlock = some k → wv.ownBlock ≠ some k) (h : TH B w g cv t tv) (hw : WS B w wv ws) :
    Calls Tryd.prog 80 #[.pointer (some ⟨g, 0, none⟩), opA 16 (a : Int) b c d, wv] w fun e w' => e = .returned (.tuple #[]) ∧ SP B w w' g cv tv wv (if t.told.length = 200 then { t with err := 8, over := true } else { t with told := t.told ++ [vget t.regs a] }) ws := by
  have H := hid h; have HW := hid hw
  have l1 := h.blk.lt
  obtain ⟨c1, f1⟩ := h.blk.ctv h.len
  obtain ⟨c2, _⟩ := h.blk.creg h.len ha
  obtain ⟨A, cp, rfl, hc1, hc2⟩ := own_form h.told
  have hap' := hid hap; clear hap
  clear h hw
  by_cases h0 : t.told.length = 200
  · rw [if_pos h0]
    rw [h0] at c1 hc1
    have e1 : ((200 : Nat) : Int) = 200 := rfl
    have HL := hid h0; clear h0
    go_enter Tryd.func80, Tryd.ntmps80
    go_wp2_with fail
    refine (vm_fail _ _ _ _ _ _ _ _ _ H.out.len (H.out.blk.alloc _)).mono ?_
    rintro e w1 ⟨rfl, hb, hc⟩
    go_wp2
    refine bodyPost_ret (results_none rfl _ _ _) rfl ?_
    exact ⟨rfl, SP.same H.out HW.out hb rfl H.out.len (((Chg.refl (fun k => k = g) w).alloc _).trans hc (fun _ _ h => h))⟩
  · rw [if_neg h0]
    have e0 : (((t.told.length : Nat) : Int) == 200) = false := by simp; omega
    have HL := hid h0; clear h0
    obtain ⟨y, hy⟩ : ∃ y, t.told ++ [vget t.regs a] = y := ⟨_, rfl⟩
    have hyl : y.length ≤ 200 := by rw [← hy, List.length_append]; have := HL.out; simp; omega
    have HY := hid hy
    have i1 : (a : Int) < 24 := by omega
    go_enter Tryd.func80, Tryd.ntmps80
    go_wp2_with fail
    go_region_law (refine step_app1 elmI gI_one rfl (.tmp 78) (.tmp 85) rfl (.slice A t.told.length cp) t.told rfl (own_below H.out.told (bnew (bnew (bnil w) _).drew _)) [vget t.regs a] y HY rfl (Sl.fresh1 w _ #[.int .i64 (vget t.regs a)] 3 1 1 rfl) rfl (by simp only [maxLen]; omega) (by omega) (by simp; omega) ?_; intro A4 c4 w4 hc5 hc6 HN HG HK; have HC := hid (Chg.of_grown HG.out (M := fun k => (Value.slice A t.told.length cp).ownBlock = some k) (fun k e => e)); have HB4 := hid (HC.out.blk ((H.out.blk.alloc _).alloc _) (own_ne_tb H.out.told H.out.blk)); obtain ⟨c4', f4'⟩ := Tb.ctv HB4.out H.out.len)
    all_goals
      go_wp2
      go_end0
      exact ⟨rfl, by subst hy; exact SP.grow H.out HW.out hap'.out ((((Chg.refl (fun _ => False) w).alloc _).alloc _).drew) HG.out HN.out HK.out⟩
end Go.Proofs.YtabmkjokeeakdaaDoor
