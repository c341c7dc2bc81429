/-
  RankTurned: its walk (under way).
-/
import Derived.Test.YtfdendcgmaediaaRankTurn0
import Derived.Deep.RegionHeld
namespace Go.Proofs.Ytfdendcgmaediaa
open Go.RowKit
set_option linter.unusedVariables false

def ApS (u v : Value) : Prop := ∀ b, u.ownBlock = some b → v.ownBlock ≠ some b
/-- three lists of the call's own, apart -/
structure T3 (W0 w : World) (vO vT vM : Value) (lO lT lM : List Int) : Prop where
  o : Ow W0 w 3 1 gI vO lO
  t : Ow W0 w 3 1 gI vT lT
  m : Ow W0 w 3 1 gI vM lM
  ot : ApS vO vT
  om : ApS vO vM
  tm : ApS vT vM
theorem T3.step {W0 w w' : World} {vO vT vM : Value} {lO lT lM : List Int} (h : T3 W0 w vO vT vM lO lT lM) (hb : Below w.heap.size w w') : T3 W0 w' vO vT vM lO lT lM :=
  ⟨h.o.step hb, h.t.step hb, h.m.step hb, h.ot, h.om, h.tm⟩
theorem Ow.grown {α : Type} {w0 w w' : World} {e sz : Nat} {g : α → List Value} {v : Value} {l : List α} {row : Option Nat} (h : Ow w0 w e sz g v l) (hg : w.grownBy w' row) (hr : ∀ k, v.ownBlock = some k → row ≠ some k) (hb : Below w0.heap.size w0 w') : Ow w0 w' e sz g v l :=
  ⟨h.own.kept hg (by rcases hk : v.ownBlock with _ | k; exact .inl rfl; exact .inr fun e => hr k hk e.symm), hb⟩
theorem ow_lt {w0 w : World} {e sz : Nat} {v : Value} {l : List Int} (h : Ow w0 w e sz gI v l) : ∀ b, v.ownBlock = some b → w0.heap.size ≤ b ∧ b < w.heap.size := by
  intro b hb
  rcases h.own.2 with ⟨h0, _⟩ | ⟨g, cap, cur, hv, hge, hbb, _⟩
  · rw [h0] at hb; cases hb
  · rw [hv] at hb
    injection hb with hb
    subst hb
    exact ⟨hge, (Array.getElem?_eq_some_iff.1 hbb).1⟩
section
variable {W0 w wA w6 : World} {vO vT vM v' : Value} {lO lT lM y : List Int}
/-- behind an append to the second list -/
theorem T3.appT (h : T3 W0 w vO vT vM lO lT lM) (hb : Below w.heap.size w wA) (hN : Ow W0 w6 3 1 gI v' y) (hG : wA.grownBy w6 vT.ownBlock) (hB : v'.ownBlock = vT.ownBlock ∨ v'.ownBlock = some wA.heap.size) : T3 W0 w6 vO v' vM lO y lM := by
  have hA := h.step hb
  have ne : ∀ {u : Value} {l : List Int}, Ow W0 wA 3 1 gI u l → ApS u vT → ApS u v' := fun hu hap b h1 h2 => by
    rcases hB with e | e
    · rw [e] at h2; exact hap b h1 h2
    · rw [e] at h2; injection h2 with h2; have := (ow_lt hu b h1).2; omega
  have hmt : ApS vM vT := fun b h1 h2 => h.tm b h2 h1
  exact ⟨hA.o.grown hG (fun k hk e => h.ot k hk e) hN.below, hN, hA.m.grown hG (fun k hk e => hmt k hk e) hN.below, ne hA.o h.ot, h.om, fun b h1 h2 => ne hA.m hmt b h2 h1⟩
/-- behind an append to the third -/
theorem T3.appM (h : T3 W0 w vO vT vM lO lT lM) (hb : Below w.heap.size w wA) (hN : Ow W0 w6 3 1 gI v' y) (hG : wA.grownBy w6 vM.ownBlock) (hB : v'.ownBlock = vM.ownBlock ∨ v'.ownBlock = some wA.heap.size) : T3 W0 w6 vO vT v' lO lT y := by
  have hA := h.step hb
  have ne : ∀ {u : Value} {l : List Int}, Ow W0 wA 3 1 gI u l → ApS u vM → ApS u v' := fun hu hap b h1 h2 => by
    rcases hB with e | e
    · rw [e] at h2; exact hap b h1 h2
    · rw [e] at h2; injection h2 with h2; have := (ow_lt hu b h1).2; omega
  exact ⟨hA.o.grown hG (fun k hk e => h.om k hk e) hN.below, hA.t.grown hG (fun k hk e => h.tm k hk e) hN.below, hN, h.ot, ne hA.o h.om, ne hA.t h.tm⟩
/-- the first one in a new block -/
theorem T3.newO (h : T3 W0 w vO vT vM lO lT lM) (hb : Below w.heap.size w wA) (hN : Ow W0 w6 3 1 gI v' y) (hG : wA.grownBy w6 (some w.heap.size)) (hB : v'.ownBlock = some w.heap.size ∨ v'.ownBlock = some wA.heap.size) (hs : w.heap.size ≤ wA.heap.size) : T3 W0 w6 v' vT vM y lT lM := by
  have hA := h.step hb
  have ne : ∀ {u : Value} {l : List Int}, Ow W0 w 3 1 gI u l → ApS v' u := fun hu b h1 h2 => by
    have h3 := (ow_lt hu b h2).2
    rcases hB with e | e
    · rw [e] at h1; injection h1 with h1; omega
    · rw [e] at h1; injection h1 with h1; omega
  exact ⟨hN, hA.t.grown hG (fun k hk e => by injection e with e; have := (ow_lt h.t k hk).2; omega) hN.below, hA.m.grown hG (fun k hk e => by injection e with e; have := (ow_lt h.m k hk).2; omega) hN.below, ne h.t, ne h.m, h.tm⟩
end
theorem ow_one {W0 w : World} (hb : Below W0.heap.size W0 w) (x : Int) : Ow W0 (w.alloc (.cells #[.int .i64 x] 3)) 3 1 gI (.slice (some ⟨w.heap.size, 0, none⟩) 1 1) [x] :=
  ⟨⟨rfl, .inr ⟨w.heap.size, 1, #[.int .i64 x], rfl, hb.size, Blk.new w _ _, Nat.le_refl _, by simp [maxLen], rfl, rfl⟩⟩, bnew hb _⟩
theorem ow_nil {W0 w : World} (hb : Below W0.heap.size W0 w) : Ow W0 w 3 1 gI (.slice none 0 0) [] := ⟨⟨rfl, .inl ⟨rfl, rfl⟩⟩, hb⟩
theorem step_appD {P : Program} {w : World} {t e : TypeId} {sz bytes : Nat} (E : Elm P t e sz bytes) {α : Type} {g : α → List Value} (hg : ∀ x, ∀ u ∈ g x, u.oneCell' = true) {ops : Array Oper} {o : Oper} {a : Act} {K : Act → World → Prop} {Q : Exit → Act → World → Prop} {D : Prop} (hw : Region.wanted o (yielded ops a.tmps) = true) (s x : Operand)
    (ho : o.op = .call { callee := .builtin .append, args := #[s, x], argTypes := #[t, t] })
    {w0 : World} (v : Value) (l : List α) (hs : a.eval s = v) (hown : Ow w0 w e sz g v l)
    {A : Option Addr} {n c : Nat} (m y : List α) (hy : Hid (l ++ m = y)) (hx : a.eval x = .slice A n c) (hr : Sl w sz A n (m.flatMap g)) (hn : m.length = n)
    (h63 : y.length ≤ maxLen) (hbytes : y.length * bytes ≤ 140737488355328)
    (h : ∀ A' c' w', y.length ≤ c' → c' ≤ maxLen → Hid (Ow w0 w' e sz g (.slice A' y.length c') y) → Hid (w.grownBy w' v.ownBlock) → Hid ((Value.slice A' y.length c').ownBlock = v.ownBlock ∨ (Value.slice A' y.length c').ownBlock = some w.heap.size) → K (a.put o.dst (.slice A' y.length c')) w') :
    if Region.wanted o (yielded ops a.tmps) = true then Oper.wp P o a w K Q else D := by
  rw [if_pos hw]
  have hy' : l ++ m = y := hy
  subst hy'
  subst hn
  rw [List.length_append] at h63 hbytes
  obtain ⟨i, z, hi, hz, hz1, hz2, hz3⟩ := E.ex
  refine wp_append_sl w s x t ho w0.heap.size e i z sz bytes E.ht hi hz hz1 hz2 hz3 E.pos v l.length (l.flatMap g) hs hown.own A m.length c (m.flatMap g) hx hr (flat_one g hg m) h63 hbytes hown.below.size fun v' w' h1 h2 h3 => ?_
  rw [← List.flatMap_append, ← List.length_append] at h1
  obtain ⟨A', c', rfl, hc1, hc2⟩ := own_form h1
  exact h A' c' w' hc1 hc2 ⟨h1, below_app hown.below hown.own h2 hown.below.size⟩ h2 h3
theorem wrap_nat {j : Nat} (h : j < 1000) : wrap64 (j : Int) = (j : Int) := wrap_rk (by omega) (by omega)
theorem trn_len (vs : List Int) (t : Nat) : ∀ k, (trn vs t k).length = k
  | 0 => rfl
  | k + 1 => by rw [trn, List.length_cons, trn_len vs t k]
set_option maxHeartbeats 4000000 in
theorem law_rankTurned (A : Option Addr) (n c : Nat) (l : List Int) (xt xb xp xo : Int) (w : World) (hn : n ≤ c) (hc : c ≤ maxLen) (_ : c * 8 ≤ 140737488351232) (hS : Sl w 1 A n (ints l)) (hbd : ∀ x ∈ l, -9223372036854775808 ≤ x ∧ x ≤ 9223372036854775807)
    (ht : -9223372036854775808 ≤ xt) (ht1 : xt ≤ 9223372036854775807) (hy : -9223372036854775808 ≤ xb) (hy1 : xb ≤ 9223372036854775807) (ha : -9223372036854775808 ≤ xp) (ha1 : xp ≤ 9223372036854775807) (hb : -9223372036854775808 ≤ xo) (hb1 : xo ≤ 9223372036854775807) :
    Calls Try.prog 12 #[.slice A n c, .int .i64 xt, .int .i64 xb, .int .i64 xp, .int .i64 xo] w fun e w' => e = .returned (.bool true) ∧ Below w.heap.size w w' := by
  have HS := hid hS; have HBD := hid hbd
  clear hS hbd
  have k1 := pk_lt xo 100 (by decide)
  obtain ⟨o, hO⟩ : ∃ o : Nat, wrap64 (1 + (pk xo 100 : Int)) = (o : Int) ∧ o = 1 + pk xo 100 := ⟨1 + pk xo 100, by rw [wrap_rk (by omega) (by omega)]; omega, rfl⟩
  have ho1 : 1 ≤ o := by omega
  have ho2 : o ≤ 100 := by omega
  have HO := hid hO.1
  have HO2 := hid (wrap_rk (x := (o : Int) + 1) (by omega) (by omega))
  clear hO k1
  have k2 := pk_lt xp ((o : Int) + 1) (by omega)
  obtain ⟨p, hP⟩ : ∃ p, pk xp ((o : Int) + 1) = p := ⟨_, rfl⟩
  have hpo : p ≤ o := by omega
  have HP := hid hP
  clear hP k2
  have k3 := pk_lt xb 1000 (by decide)
  obtain ⟨d, hD⟩ : ∃ d, pk xb 1000 = d := ⟨_, rfl⟩
  have hd : d < 1000 := by omega
  have HD := hid hD
  clear hD k3
  go_enter Try.func12, Try.ntmps12
  go_wp2_with fail
  refine (values_of A n c l 50 w hn hc HS.out HBD.out (by decide)).mono ?_
  rintro e w1 ⟨v1, rfl, o1⟩
  obtain ⟨A1, c1, rfl, hc1, hc12⟩ := o1.form
  obtain ⟨V, hV⟩ : ∃ V, (valsOf l 50).length = V := ⟨_, rfl⟩
  have hV1 : 1 ≤ V := by rw [← hV, valsOf_len]; omega
  have hV2 : V ≤ 51 := by rw [← hV, valsOf_len]; omega
  have hbv := valsOf_bd l 50
  obtain ⟨vs, hvs⟩ : ∃ vs, valsOf l 50 = vs := ⟨_, rfl⟩
  rw [hvs] at hV o1 hc1 hbv ⊢
  rw [hV] at hc1 ⊢
  have HV := hid hV; have HBV := hid hbv
  have HSL := hid (show Sl w1 1 A1 V (ints vs) by have h := o1.sl; rw [hV] at h; exact h)
  have B1 := hid o1.below
  obtain ⟨b, c7, e7, _, hcell⟩ := own_at o1.own (by rw [hV]; omega)
  injection e7 with e7 e8 e9
  subst e7
  subst e9
  clear e8 hcell
  have HC := hid (show ∀ w', Below w1.heap.size w1 w' → ∀ (k : Nat) (v : Int), vs[k]? = some v → w'.cell? ⟨b, k, none⟩ = some (.int .i64 v) from fun w' hw k v hk => by
    obtain ⟨ad, x, e, hx, c0⟩ := (HSL.out.below hw).ati (k := k) (by have := (List.getElem?_eq_some_iff.1 hk).1; have := HV.out; omega)
    injection e with e
    subst e
    rw [hx] at hk
    injection hk with hk
    subst hk
    by_cases hk0 : k = 0
    · subst hk0; simpa [Addr.add] using c0
    · simpa [Addr.add, hk0] using c0)
  clear o1 hvs hV hbv
  unfold maxLen at hc12
  go_wp2_with fail
  refine (picked xo 100 w1 (by decide) hb hb1 (by decide)).mono ?_
  rintro e w' ⟨rfl, rfl⟩
  go_wp2_with fail
  rw [HO.out, HO2.out]
  refine (picked xp ((o : Int) + 1) w1 (by omega) ha ha1 (by omega)).mono ?_
  rintro e w' ⟨rfl, rfl⟩
  rw [HP.out]
  go_wp2_with fail
  refine (picked xb 1000 w1 (by decide) hy hy1 (by decide)).mono ?_
  rintro e w' ⟨rfl, rfl⟩
  rw [HD.out]
  have iV : (0 : Int) < (V : Int) := by omega
  have HV1 := hid (show (1 : Int) ≤ (V : Int) by omega)
  have HV9 := hid (show (V : Int) ≤ 4611686018427387904 by omega)
  obtain ⟨t, hT⟩ : ∃ t, pk xt (V : Int) = t := ⟨_, rfl⟩
  have htV : t < V := by have := pk_lt xt (V : Int) (by omega); omega
  have HT := hid hT
  clear hT
  go_wp2_with fail
  go_loopw [15, 16, 17, 18] (fun vO vT vM i wr => ∃ k : Nat, k ≤ V ∧ i = .int .i64 k ∧ Hid (T3 w1 wr vO vT vM (trn vs t k) (dbl (vs.take k)) ((vs.take k).map (· + (d : Int))))) (fun _ _ _ i _ => V - (intOf i).toNat)
  case atStart => exact ⟨0, Nat.zero_le _, rfl, hid ⟨ow_nil (bnil _), ow_nil (bnil _), ow_nil (bnil _), fun b h => (by cases h), fun b h => (by cases h), fun b h => (by cases h)⟩⟩
  case round =>
    obtain ⟨k, hk, rfl, H3⟩ := hrel
    have hkt : k + t < 1000 := by omega
    by_cases hlt : k < V
    · have j1 : (k : Int) < (V : Int) := by omega
      obtain ⟨j, hj⟩ : ∃ j, (k + t) % V = j := ⟨_, rfl⟩
      have hjV : j < V := by rw [← hj]; exact Nat.mod_lt _ (by omega)
      have jV : (j : Int) < (V : Int) := by omega
      have e0 : ((V : Int) == 0) = false := by rw [beq_eq_false_iff_ne]; omega
      have e1 : ¬ (V : Int) = 0 := by omega
      obtain ⟨vj, hvj⟩ : ∃ v, vs[j]? = some v := ⟨_, List.getElem?_eq_getElem (by rw [HV.out]; omega)⟩
      obtain ⟨v, hv⟩ : ∃ v, vs[k]? = some v := ⟨_, List.getElem?_eq_getElem (by rw [HV.out]; omega)⟩
      have HET := hid (show ((k : Int) + (t : Int)).tmod (V : Int) = (j : Int) by rw [← hj, Int.tmod_eq_emod_of_nonneg (by omega)]; simp)
      have HJ := hid hj
      have cj := HC.out wr H3.out.o.below j vj hvj
      have HVJ := hid hvj
      have HVK := hid hv
      clear hj hvj hv
      go_wp2_with fail
      refine (picked xt (V : Int) wr HV1.out ht ht1 HV9.out).mono ?_
      rintro e w' ⟨rfl, rfl⟩
      rw [HT.out]
      have HL0 := hid (trn_len vs t k)
      have HY1 := hid (show [vj] ++ trn vs t k = trn vs t (k + 1) from by
        rw [trn, HV.out, HJ.out, List.getD_eq_getElem?_getD, HVJ.out]; rfl)
      have HL1 := hid (trn_len vs t (k + 1))
      obtain ⟨AO, cO, rfl, hcO, hcO2⟩ := H3.out.o.form
      have HSO := hid (H3.out.o.sl.below (bnew (bnil wr) (.cells #[.int .i64 vj] 3)))
      obtain ⟨lo, hlo⟩ : ∃ lo, trn vs t k = lo := ⟨_, rfl⟩
      obtain ⟨y, hyy⟩ : ∃ y, trn vs t (k + 1) = y := ⟨_, rfl⟩
      rw [hlo] at HL0 HY1 HSO H3 hcO ⊢
      rw [hyy] at HY1 HL1
      clear hcO hcO2
      have et := HET.out
      go_wp2_with (at_builtin; clear et; refine wpList_appY elmI gI_one rfl (.tmp 49) (.tmp 50) rfl (.slice (some ⟨wr.heap.size, 0, none⟩) 1 1) [vj] rfl (ow_one H3.out.o.below vj) lo y HY1 rfl HSO.out rfl (by rw [HL1.out]; simp only [maxLen]; omega) (by rw [HL1.out]; omega) ?_; intro A4 c4 w4 hc4 hc5 HN1 HG1 HB1)
      have H4 := hid (H3.out.newO (bnew (bnil wr) _) HN1.out HG1.out HB1.out (by simp))
      clear HN1 HG1 HB1 HSO H3 cj
      obtain ⟨AT, cT, rfl, hcT, hcT2⟩ := H4.out.t.form
      obtain ⟨AM, cM, rfl, hcM, hcM2⟩ := H4.out.m.form
      have HL2 := hid (show (dbl (vs.take (k + 1))).length = 2 * k + 2 by rw [dbl_len, List.length_take, HV.out]; omega)
      have HLT := hid (show (dbl (vs.take k)).length = 2 * k by rw [dbl_len, List.length_take, HV.out]; omega)
      have HY2 := hid (show dbl (vs.take k) ++ [v, v] = dbl (vs.take (k + 1)) from by
        rw [List.take_add_one, HVK.out]; unfold dbl; rw [List.flatMap_append]; rfl)
      have HL3 := hid (show ((vs.take (k + 1)).map (· + (d : Int))).length = k + 1 by rw [List.length_map, List.length_take, HV.out]; omega)
      have HLM := hid (show ((vs.take k).map (· + (d : Int))).length = k by rw [List.length_map, List.length_take, HV.out]; omega)
      have HY3 := hid (show (vs.take k).map (· + (d : Int)) ++ [v + (d : Int)] = (vs.take (k + 1)).map (· + (d : Int)) from by
        rw [List.take_add_one, HVK.out, List.map_append]; rfl)
      have hvb := HBV.out v (List.mem_of_getElem? HVK.out)
      have evd : wrap64 (v + (d : Int)) = v + (d : Int) := wrap_rk (by omega) (by omega)
      have ck4 := HC.out w4 H4.out.o.below k v HVK.out
      obtain ⟨lt, hlt2⟩ : ∃ lt, dbl (vs.take k) = lt := ⟨_, rfl⟩
      obtain ⟨y2, hy2⟩ : ∃ y, dbl (vs.take (k + 1)) = y := ⟨_, rfl⟩
      obtain ⟨lm, hlm⟩ : ∃ lm, (vs.take k).map (· + (d : Int)) = lm := ⟨_, rfl⟩
      obtain ⟨y3, hy3⟩ : ∃ y, (vs.take (k + 1)).map (· + (d : Int)) = y := ⟨_, rfl⟩
      rw [hlt2] at H4 HLT HY2
      rw [hlt2]
      rw [hlm] at H4 HLM HY3
      rw [hlm]
      rw [hy2] at HL2 HY2
      rw [hy3] at HL3 HY3
      clear hcT hcT2 hcM hcM2
      refine wp_region_held_drew (S := (fun w' => w'.cell? ⟨b, k, none⟩ = some (.int .i64 v))) (by kernel_rfl) ?_ (fun hHeld => ?_)
      · (try dsimp only); (first | assumption | exact ck4 | exact cell_below (bnil w4).drew ck4 | exact cell_below (bnew (bnil w4) _).drew ck4 | exact ck5)
      refine wpAnyH_take (i := 0) (oi := ⟨some 52, _, _, _, _, _⟩) (v := ?_) rfl (by kernel_rfl) (by kernel_rfl) (by kernel_rfl) (fun _ _ _ h => h) (Or.inl ⟨by rfl, ?_⟩) (by assumption) ?_
      rotate_left
      · intro w hSw; (try dsimp only at hSw); go_simp <;> with_reducible rfl
      try simp only [Act.put, List.setIfInBounds_toArray, List.set_cons_zero, List.set_cons_succ]
      refine wpAnyH_take (i := 1) (oi := ⟨some 53, _, _, _, _, _⟩) (v := ?_) rfl (by kernel_rfl) (by kernel_rfl) (by kernel_rfl) (fun _ _ _ h => h) (Or.inl ⟨by rfl, ?_⟩) (by assumption) ?_
      rotate_left
      · intro w hSw; (try dsimp only at hSw); go_simp <;> with_reducible rfl
      try simp only [Act.put, List.setIfInBounds_toArray, List.set_cons_zero, List.set_cons_succ]
      refine wpAnyH_take (i := 2) (oi := ⟨some 54, _, _, _, _, _⟩) (v := ?_) rfl (by kernel_rfl) (by kernel_rfl) (by kernel_rfl) (fun _ _ _ h => h) (Or.inl ⟨by rfl, ?_⟩) (by assumption) ?_
      rotate_left
      · intro w hSw; (try dsimp only at hSw); go_simp <;> with_reducible rfl
      try simp only [Act.put, List.setIfInBounds_toArray, List.set_cons_zero, List.set_cons_succ]
      refine wpAnyH_take (i := 3) (oi := ⟨some 55, _, _, _, _, _⟩) (v := ?_) rfl (by kernel_rfl) (by kernel_rfl) (by kernel_rfl) (fun _ _ _ h => h) (Or.inl ⟨by rfl, ?_⟩) (by assumption) ?_
      rotate_left
      · intro w hSw; (try dsimp only at hSw); go_simp <;> with_reducible rfl
      try simp only [Act.put, List.setIfInBounds_toArray, List.set_cons_zero, List.set_cons_succ]
      refine wpAnyH_take (i := 4) (oi := ⟨some 56, _, _, _, _, _⟩) (v := ?_) rfl (by kernel_rfl) (by kernel_rfl) (by kernel_rfl) (fun _ _ _ h => h) (Or.inl ⟨by rfl, ?_⟩) (by assumption) ?_
      rotate_left
      · intro w hSw; (try dsimp only at hSw); go_simp <;> with_reducible rfl
      try simp only [Act.put, List.setIfInBounds_toArray, List.set_cons_zero, List.set_cons_succ]
      refine wpAnyH_take (i := 5) (oi := ⟨some 57, _, _, _, _, _⟩) (v := ?_) rfl (by kernel_rfl) (by kernel_rfl) (by kernel_rfl) (fun _ _ _ h => h) (Or.inl ⟨by rfl, ?_⟩) (by assumption) ?_
      rotate_left
      · intro w hSw; (try dsimp only at hSw); go_simp <;> with_reducible rfl
      try simp only [Act.put, List.setIfInBounds_toArray, List.set_cons_zero, List.set_cons_succ]
      refine wpAnyH_take (i := 6) (oi := ⟨some 58, _, _, _, _, _⟩) (v := ?_) rfl (by kernel_rfl) (by kernel_rfl) (by kernel_rfl) (fun _ _ _ h => h) (Or.inl ⟨by rfl, ?_⟩) (by assumption) ?_
      rotate_left
      · intro w hSw; (try dsimp only at hSw); go_simp <;> with_reducible rfl
      try simp only [Act.put, List.setIfInBounds_toArray, List.set_cons_zero, List.set_cons_succ]
      refine wpAnyH_take (i := 7) (oi := ⟨some 59, _, _, _, _, _⟩) (v := ?_) rfl (by kernel_rfl) (by kernel_rfl) (by kernel_rfl) (fun _ _ _ h => h) (Or.inl ⟨by rfl, ?_⟩) (by assumption) ?_
      rotate_left
      · intro w hSw; (try dsimp only at hSw); go_simp <;> with_reducible rfl
      try simp only [Act.put, List.setIfInBounds_toArray, List.set_cons_zero, List.set_cons_succ]
      refine wpAnyH_take (i := 8) (oi := ⟨some 60, _, _, _, _, _⟩) (v := ?_) rfl (by kernel_rfl) (by kernel_rfl) (by kernel_rfl) (fun _ _ _ h => h) (Or.inl ⟨by rfl, ?_⟩) (by assumption) ?_
      rotate_left
      · intro w hSw; (try dsimp only at hSw); go_simp <;> with_reducible rfl
      try simp only [Act.put, List.setIfInBounds_toArray, List.set_cons_zero, List.set_cons_succ]
      refine wpAnyH_ready (rs := [9]) (by kernel_rfl) (by simp) ?_
      refine AllReadyH.cons (o := ⟨some 61, _, _, _, _, _⟩) rfl (fun K hK => ?_) AllReadyH.nil
      go_simp
      refine hK.out _ _ ?_ (fun hHeld => ?_)
      · (try dsimp only); (first | assumption | exact ck4 | exact cell_below (bnil w4).drew ck4 | exact cell_below (bnew (bnil w4) _).drew ck4 | exact ck5)
      clear hK K
      try simp only [Act.put, List.setIfInBounds_toArray, List.set_cons_zero, List.set_cons_succ]
      refine wpAnyH_ready (rs := [10]) (by kernel_rfl) (by simp) ?_
      refine AllReadyH.cons (o := ⟨some 62, _, _, _, _, _⟩) rfl (fun K hK => ?_) AllReadyH.nil
      (refine step_appD elmI gI_one rfl (.tmp 52) (.tmp 61) rfl (.slice AT lt.length cT) lt rfl (H4.out.t.step (bnew (bnil w4) _).drew) [v, v] y2 HY2 rfl (Sl.drew (Sl.fresh' _ #[_, _] 3 1 2 _ rfl rfl)) rfl (by rw [HL2.out]; simp only [maxLen]; omega) (by rw [HL2.out]; omega) ?_; intro A5 c5 w5 hc6 hc7 HN2 HG2 HB2; have ck5 := HC.out w5 HN2.out.below k v HVK.out)
      refine hK.out _ _ ?_ (fun hHeld => ?_)
      · (try dsimp only); (first | assumption | exact ck4 | exact cell_below (bnil w4).drew ck4 | exact cell_below (bnew (bnil w4) _).drew ck4 | exact ck5)
      clear hK K
      try simp only [Act.put, List.setIfInBounds_toArray, List.set_cons_zero, List.set_cons_succ]
      refine wpAnyH_take (i := 11) (oi := ⟨some 16, _, _, _, _, _⟩) (v := ?_) rfl (by kernel_rfl) (by kernel_rfl) (by kernel_rfl) (fun _ _ _ h => h) (Or.inl ⟨by rfl, ?_⟩) (by assumption) ?_
      rotate_left
      · intro w hSw; (try dsimp only at hSw); go_simp <;> with_reducible rfl
      try simp only [Act.put, List.setIfInBounds_toArray, List.set_cons_zero, List.set_cons_succ]
      refine wpAnyH_done (by kernel_rfl) ?_ _
      rotate_left
      have H5 := hid (H4.out.appT (bnew (bnil w4) (.cells #[.int .i64 v, .int .i64 v] 3)).drew HN2.out HG2.out HB2.out)
      clear HN2 HG2 HB2 H4 hHeld ck4
      go_wp2_with (at_builtin; refine wpList_appY elmI gI_one rfl (.tmp 63) (.tmp 70) rfl (.slice AM lm.length cM) lm rfl (H5.out.m.step (bnew (bnil w5) _)) [v + (d : Int)] y3 HY3 rfl (Sl.fresh' _ #[_] 3 1 1 _ rfl rfl) rfl (by rw [HL3.out]; simp only [maxLen]; omega) (by rw [HL3.out]; omega) ?_; intro A7 c7 w7 hc8 hc9 HN3 HG3 HB3)
      have H6 := hid (H5.out.appM (bnew (bnil w5) (.cells #[.int .i64 (v + (d : Int))] 3)) HN3.out HG3.out HB3.out)
      clear HN3 HG3 HB3 H5
      refine ⟨⟨k + 1, by omega, by go_num, ?_⟩, by simp [intOf]; omega⟩
      rw [hyy, hy2, hy3]
      exact H6
    · obtain rfl : k = V := by omega
      have j1 : ¬ (k : Int) < (k : Int) := by omega
      have htk : vs.take k = vs := List.take_of_length_le (by rw [HV.out]; exact Nat.le_refl _)
      rw [htk] at H3
      obtain ⟨AO, cO, rfl, _, _⟩ := H3.out.o.form
      obtain ⟨AT, cT, rfl, _, _⟩ := H3.out.t.form
      obtain ⟨AM, cM, rfl, _, _⟩ := H3.out.m.form
      have hz1 : 1 ≤ vs.length := by rw [HV.out]; exact hV1
      have htv : t < vs.length := by rw [HV.out]; exact htV
      have e1 : rk (trn vs t k) o p = rk vs o p := rk_perm (by have h := trn_perm vs htv; rw [HV.out] at h; exact h) o p
      have e2 := rk_dbl (l := vs) hz1 hpo
      have e3 := rk_add (l := vs) hz1 hpo (d : Int)
      have e4 := rk_thrice vs o p
      have hx := (rank_one (l := vs) hz1 hpo).1
      have lo1 : (trn vs t k).length = k := trn_len vs t k
      have lt1 : (dbl vs).length = 2 * k := by rw [dbl_len, HV.out]
      have lm1 : (vs.map (· + (d : Int))).length = k := by rw [List.length_map, HV.out]
      have SO := hid H3.out.o.sl
      have ST := hid H3.out.t.sl
      have SM := hid H3.out.m.sl
      have BR := hid H3.out.o.below
      clear H3 htk htv
      rw [lo1] at SO ⊢
      rw [lt1] at ST ⊢
      rw [lm1] at SM ⊢
      obtain ⟨lo, hlo⟩ : ∃ lo, trn vs t k = lo := ⟨_, rfl⟩
      obtain ⟨lt, hlt2⟩ : ∃ lt, dbl vs = lt := ⟨_, rfl⟩
      obtain ⟨lm, hlm⟩ : ∃ lm, vs.map (· + (d : Int)) = lm := ⟨_, rfl⟩
      rw [hlo] at lo1 SO e1
      rw [hlt2] at lt1 ST e2
      rw [hlm] at lm1 SM e3
      obtain ⟨X, hX⟩ : ∃ X, rk vs o p = X := ⟨_, rfl⟩
      have hXb := HBV.out X (by rw [← hX]; exact hx)
      have R1 := hid (rank_k (some ⟨b, 0, none⟩) k c1 o p vs wr HV.out hV1 (by omega) ho1 (by omega) hpo (HSL.out.below BR.out))
      have R2 := hid (fun w' hw' => rank_k AO k cO o p lo w' lo1 hV1 (by omega) ho1 (by omega) hpo (SO.out.below hw'))
      have R3 := hid (fun w' hw' => rank_k AT (2 * k) cT o p lt w' lt1 (by omega) (by omega) ho1 (by omega) hpo (ST.out.below hw'))
      have R4 := hid (fun w' hw' => rank_k AM k cM o p lm w' lm1 hV1 (by omega) ho1 (by omega) hpo (SM.out.below hw'))
      have R5 := hid (fun w' hw' => rank_k (some ⟨b, 0, none⟩) k c1 (3 * o) (3 * p) vs w' HV.out hV1 (by omega) (by omega) (by omega) (by omega) (HSL.out.below (bgo BR.out hw')))
      rw [e1] at R2
      rw [e2] at R3
      rw [e3] at R4
      rw [e4] at R5
      rw [hX] at R1 R2 R3 R4 R5
      rw [show ((3 * o : Nat) : Int) = 3 * (o : Int) by omega, show ((3 * p : Nat) : Int) = 3 * (p : Int) by omega] at R5
      clear e1 e2 e3 e4 hX hx hlo hlt2 hlm lo1 lt1 lm1 SO ST SM hz1 HBV
      go_wp2_with fail
      refine R1.out.mono ?_
      rintro e w2 ⟨rfl, b2⟩
      have ix : X < 1073741824 := by omega
      go_wp2_with fail
      refine (R2.out w2 b2).mono ?_
      rintro e w3 ⟨rfl, b3⟩
      have b3 := bgo b2 b3
      have ixx : (X == X) = true := by simp
      go_wp2_with fail
      refine (R3.out w3 b3).mono ?_
      rintro e w4 ⟨rfl, b4⟩
      have b4 := bgo b3 b4
      have HXD := hid (wrap_rk (x := X + (d : Int)) (by omega) (by omega))
      go_wp2_with fail
      refine (R4.out w4 b4).mono ?_
      rintro e w5 ⟨rfl, b5⟩
      have b5 := bgo b4 b5
      have ixd : ((X + (d : Int)) == (X + (d : Int))) = true := by simp
      go_wp2_with fail
      refine (R5.out w5 b5).mono ?_
      rintro e w6 ⟨rfl, b6⟩
      go_wp2_with fail
      go_ret
      exact ⟨rfl, bgo B1.out (bgo BR.out (bgo b5 b6))⟩
end Go.Proofs.Ytfdendcgmaediaa
