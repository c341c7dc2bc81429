/-
  tags.May of an index whose series are told by numbers: its walk.
-/
import Derived.Test.YtfdgklfkpofkeaaTgMath
namespace Go.Proofs.Ytfdgklfkpofkeaa
open Go.RowKit Go.Maps
set_option linter.unusedVariables false

def BPost (w : World) (P : Prop) (e : Ending) (w' : World) : Prop := ∃ b : Bool, e = .returned (.bool b) ∧ (b = true ↔ P) ∧ Below w.heap.size w w'
def TOk (t : Nat × Nat) : Prop := t.1 < 3 ∧ t.2 < 4
theorem tag_eq (a b c d : ByteArray) (w : World) : (Op.equalIn 10000 43 (.agg #[.string a, .string b]) (.agg #[.string c, .string d])).run Try.prog w = .ok ((a.toList == c.toList) && (b.toList == d.toList)) w := by
  rw [run_equalIn_struct w 9999 43 _ _ (by kernel_rfl) (by kernel_rfl)]
  have hf : ((Try.prog.fieldsOf 43).toList.map fun f => (f.name, f.type, f.offset)) = [("Key", 9, 0), ("Value", 9, 1)] := by kernel_rfl
  obtain ⟨f0, r, hr, h0, hr2⟩ := List.map_eq_cons_iff.1 hf
  obtain ⟨f1, r2, hr3, h1, hr4⟩ := List.map_eq_cons_iff.1 hr2
  have hr5 := List.map_eq_nil_iff.1 hr4
  subst hr5
  rw [hr, hr3]
  simp only [Prod.mk.injEq] at h0 h1
  obtain ⟨n0, t0, o0⟩ := h0
  obtain ⟨n1, t1, o1⟩ := h1
  have p0 : ∀ (x y : ByteArray) (w : World), (part 9 #[.string x, .string y] 0).run Try.prog w = .ok (.string x) w := fun _ _ _ => by kernel_rfl
  have p1 : ∀ (x y : ByteArray) (w : World), (part 9 #[.string x, .string y] 1).run Try.prog w = .ok (.string y) w := fun _ _ _ => by kernel_rfl
  have hs := fun (x y : ByteArray) => run_equalIn_string (P := Try.prog) w 9998 9 x y Try.underlying9
  unfold Op.eqFields
  rw [if_pos (by rw [n0]; decide), t0, o0]
  unfold Op.eqFields
  rw [if_pos (by rw [n1]; decide), t1, o1]
  unfold Op.eqFields
  by_cases h1 : (a.toList == c.toList) = true
  · by_cases h2 : (b.toList == d.toList) = true
    · simp [Sem.run_bind, p0, p1, hs, Result.andThen, h1, h2]
    · simp [Sem.run_bind, p0, p1, hs, Result.andThen, h1, h2]
  · simp [Sem.run_bind, p0, hs, Result.andThen, h1]
theorem tags_at {w : World} {A : Option Addr} {n : Nat} {l : List (Nat × Nat)} (h : Sl w 2 A n (l.flatMap gT)) (hl : l.length = n) {k : Nat} (hk : k < n) :
    ∃ ad t, A = some ad ∧ l[k]? = some t ∧ w.cell? (ad.add (k * 2)) = some (.string (kS t.1)) ∧ w.cell? ⟨(ad.add (k * 2)).block, (ad.add (k * 2)).off + 1, none⟩ = some (.string (vS t.2)) := by
  obtain ⟨ad, e, hc⟩ := h.2 (by omega)
  have ha : l[k]? = some l[k] := List.getElem?_eq_getElem (by omega)
  have F := fun (j : Nat) (hj : j < 2) (u : Value) (hu : (gT l[k])[j]? = some u) => hc (k * 2 + j) u (by rw [flatMap_at gT 2 (fun _ => rfl) l k j _ ha hj]; exact hu)
  exact ⟨ad, l[k], e, ha, F 0 (by decide) _ rfl, cell_next (by decide) (F 1 (by decide) _ rfl)⟩
set_option maxRecDepth 100000 in
set_option maxHeartbeats 2000000 in
theorem tequal (A B : Option Addr) (n m c d : Nat) (l k : List (Nat × Nat)) (w : World) (hn : n ≤ 100) (hA : Sl w 2 A n (l.flatMap gT)) (hB : Sl w 2 B m (k.flatMap gT)) (hl : l.length = n) (hk : k.length = m) (ol : ∀ t ∈ l, TOk t) (ok : ∀ t ∈ k, TOk t) :
    Calls Try.prog 30 #[.slice A n c, .slice B m d] w fun e w' => BPost w (l = k) e w' := by
  have HA := hid hA; have HB := hid hB; have HL := hid hl; have HK := hid hk; have OL := hid ol; have OK := hid ok
  clear hA hB hl hk ol ok
  have hgd : Try.prog.eqGuardType Try.prog.depth 43 = false := by kernel_rfl
  by_cases hnm : n = m
  · subst hnm
    have hnn : ((n : Int) != (n : Int)) = false := by simp
    go_enter Try.func30, Try.ntmps30
    go_wp2
    go_loopw [13] (fun i wr => ∃ q : Nat, q ≤ n ∧ i = .int .i64 q ∧ Hid (Below w.heap.size w wr) ∧ Hid (l.take q = k.take q)) (fun i _ => n - (intOf i).toNat)
    case atStart => exact ⟨0, Nat.zero_le _, rfl, hid (bnil _), hid (by simp)⟩
    case round =>
      obtain ⟨q, hq, rfl, HW, HT⟩ := hrel
      by_cases hlt : q < n
      · obtain ⟨ad, x, rfl, hx, c1, c2⟩ := tags_at (HA.out.below HW.out) HL.out hlt
        obtain ⟨ad', x', rfl, hx', d1, d2⟩ := tags_at (HB.out.below HW.out) HK.out hlt
        have HX := hid hx; have HX' := hid hx'
        have e1 := kS_eq x.1 (OL.out x (List.mem_of_getElem? hx)).1 x'.1 (OK.out x' (List.mem_of_getElem? hx')).1
        have e2 := vS_eq x.2 (OL.out x (List.mem_of_getElem? hx)).2 x'.2 (OK.out x' (List.mem_of_getElem? hx')).2
        have hte : ∀ w : World, (Op.equalIn 10000 43 (.agg #[.string (kS x.1), .string (vS x.2)]) (.agg #[.string (kS x'.1), .string (vS x'.2)])).run Try.prog w = .ok (decide (x = x')) w := fun w => by
          rw [tag_eq, e1, e2]
          congr 1
          obtain ⟨a, b⟩ := x; obtain ⟨a', b'⟩ := x'
          by_cases h1 : a = a' <;> by_cases h2 : b = b' <;> simp [h1, h2]
        clear hx hx' e1 e2
        have i1 : (q : Int) < (n : Int) := by omega
        by_cases hxx : x = x'
        · have hd : decide (x = x') = true := by simp [hxx]
          rw [hd] at hte
          have HXX := hid hxx
          clear hxx hd
          go_upto_region 6 with fail
          go_quiet (fail)
          go_wp2_with fail
          have HWQ := hid (bgo HW.out (below_drewN (bnil _) nq))
          go_roundw
          case rel => exact ⟨q + 1, by omega, by go_num, HWQ, hid (by rw [List.take_add_one, List.take_add_one, HT.out, HX.out, HX'.out, HXX.out])⟩
          case measure => simp [intOf]; omega
        · have hd : decide (x = x') = false := by simp [hxx]
          rw [hd] at hte
          have HXX := hid hxx
          clear hxx hd
          go_upto_region 6 with fail
          go_quiet (fail)
          go_wp2_with fail
          refine bodyPost_ret (v := .bool false) (by simp [results, Try.results30, go_sem]) rfl ?_
          exact ⟨false, rfl, ⟨fun h => (by cases h), fun h => absurd (by have h1 := HX.out; rw [h, HX'.out] at h1; injection h1 with h1; exact h1.symm) HXX.out⟩, bgo HW.out (below_drewN (bnil _) nq)⟩
      · obtain rfl : q = n := by omega
        go_wp2
        go_ret
        refine ⟨true, rfl, ⟨fun _ => ?_, fun _ => rfl⟩, HW.out⟩
        have h1 := HT.out
        rwa [List.take_of_length_le (by rw [HL.out]; exact Nat.le_refl _), List.take_of_length_le (by rw [HK.out]; exact Nat.le_refl _)] at h1
  · have hnn : ((n : Int) != (m : Int)) = true := by simp; omega
    go_enter Try.func30, Try.ntmps30
    go_wp2
    go_ret
    exact ⟨false, rfl, ⟨fun h => (by cases h), fun h => absurd (by rw [← HL.out, ← HK.out, h]) hnm⟩, bnil w⟩

/-- an index in memory: its series, each told by a number -/
structure SerAt (w : World) (A : Option Addr) (n : Nat) (ns : List Nat) : Prop where
  len : ns.length = n
  most : n ≤ 30
  lt : ∀ x ∈ ns, x < 64
  nd : ns.Nodup
  row : ∃ svs : List Value, svs.length = n ∧ Sl w 1 A n svs ∧ ∀ (i x : Nat), ns[i]? = some x → ∃ A' n' c', svs[i]? = some (.slice A' n' c') ∧ (tagsOf x).length = n' ∧ Sl w 2 A' n' ((tagsOf x).flatMap gT)
theorem SerAt.below {w w' : World} {A : Option Addr} {n : Nat} {ns : List Nat} (h : SerAt w A n ns) (hb : Below w.heap.size w w') : SerAt w' A n ns := by
  obtain ⟨svs, h1, h2, h3⟩ := h.row
  exact ⟨h.len, h.most, h.lt, h.nd, svs, h1, h2.below hb, fun i x hx => by obtain ⟨A', n', c', a, b, d⟩ := h3 i x hx; exact ⟨A', n', c', a, b, d.below hb⟩⟩
theorem SerAt.at_ {w : World} {A : Option Addr} {n : Nat} {ns : List Nat} (h : SerAt w A n ns) {i : Nat} (hi : i < n) :
    ∃ ad x A' n' c', A = some ad ∧ ns[i]? = some x ∧ x < 64 ∧ w.cell? (ad.add i) = some (.slice A' n' c') ∧ (tagsOf x).length = n' ∧ Sl w 2 A' n' ((tagsOf x).flatMap gT) := by
  obtain ⟨svs, h1, h2, h3⟩ := h.row
  have hl := h.len
  have hx : ns[i]? = some ns[i] := List.getElem?_eq_getElem (by omega)
  obtain ⟨A', n', c', a, b, d⟩ := h3 i _ hx
  obtain ⟨ad, e, hc⟩ := h2.2 (by omega)
  exact ⟨ad, ns[i], A', n', c', e, hx, h.lt _ (List.mem_of_getElem? hx), hc i _ a, b, d⟩
theorem tok {x : Nat} (h : x < 64) : ∀ t ∈ tagsOf x, TOk t := fun t ht => ⟨((tags_ok x h).2 t ht).1, ((tags_ok x h).2 t ht).2.2⟩

set_option maxRecDepth 100000 in
set_option maxHeartbeats 2000000 in
theorem index_sers (bl : Nat) (A : Option Addr) (n c i x : Nat) (A' : Option Addr) (n' c' cc : Nat) (ns : List Nat) (w : World) (h : SerAt w A n ns) (hi : i < n) (hx : ns[i]? = some x) (hb : w.cell? ⟨bl, 0, none⟩ = some (.slice A' n' c')) (hn' : (tagsOf x).length = n') (hs : Sl w 2 A' n' ((tagsOf x).flatMap gT)) :
    Calls Try.prog 42 #[.slice A i cc, .func (.func 29) #[] #[.pointer (some ⟨bl, 0, none⟩)]] w fun e w' => e = .returned (.int .i64 (-1)) ∧ Below w.heap.size w w' := by
  have H := hid h
  have HB := hid hb
  have HX := hid hx
  have HS := hid hs
  have HN := hid hn'
  have hn30 := h.most
  have hx64 := h.lt x (List.mem_of_getElem? hx)
  have hn3 : n' ≤ 3 := by rw [← hn']; exact (tags_ok x hx64).1
  clear h hb hx hs hn'
  go_enter Try.func42, Try.ntmps42
  go_wp2
  go_loopw [8] (fun q wr => ∃ k : Nat, k ≤ i ∧ q = .int .i64 k ∧ Hid (Below w.heap.size w wr)) (fun q _ => i - (intOf q).toNat)
  case atStart => exact ⟨0, Nat.zero_le _, rfl, hid (bnil _)⟩
  case round =>
    obtain ⟨k, hk, rfl, HW⟩ := hrel
    by_cases hlt : k < i
    · obtain ⟨ad, y, B', m', d', rfl, hy, hy64, cy, hym, hys⟩ := (H.out.below HW.out).at_ (show k < n by omega)
      have i1 : (k : Int) < (i : Int) := by omega
      have hne : ¬ tagsOf x = tagsOf y := fun e => by
        have e2 := tags_inj x hx64 y hy64 e
        have h1 := HX.out
        rw [e2] at h1
        have := (List.getElem?_inj (List.getElem?_eq_some_iff.1 h1).1 H.out.nd).1 (h1.trans hy.symm)
        omega
      have hm3 : m' ≤ 3 := by rw [← hym]; exact (tags_ok y hy64).1
      have HNE := hid hne
      have HYM := hid hym
      have HYS := hid hys
      have HB2 := hid (cell_below HW.out HB.out)
      have hb2 := HB2.out
      clear hne hym hys hy
      go_wp2_with fail
      have hcl : Calls Try.prog 29 #[.slice B' m' d', .pointer (some ⟨bl, 0, none⟩)] wr fun e w' => e = .returned (.bool false) ∧ Below wr.heap.size wr w' := by
        go_enter Try.func29, Try.ntmps29
        go_wp2_with fail
        refine (tequal A' B' n' m' c' d' (tagsOf x) (tagsOf y) _ (by omega) (HS.out.below HW.out) HYS.out HN.out HYM.out (tok hx64) (tok hy64)).mono ?_
        rintro e w2 ⟨b2, rfl, hb3, z2⟩
        obtain rfl : b2 = false := by cases b2 <;> first | rfl | exact absurd (hb3.1 rfl) HNE.out
        go_wp2_with fail
        go_ret
        exact ⟨rfl, z2⟩
      refine hcl.mono ?_
      rintro e w2 ⟨rfl, z2⟩
      have Z2 := hid (bgo HW.out z2)
      clear hcl z2
      go_wp2_with fail
      go_roundw
      case rel => exact ⟨k + 1, by omega, by go_num, Z2⟩
      case measure => simp [intOf]; omega
    · obtain rfl : k = i := by omega
      go_wp2
      go_ret
      exact ⟨rfl, HW.out⟩
theorem contains_sers (bl : Nat) (A : Option Addr) (n c i x : Nat) (A' : Option Addr) (n' c' cc : Nat) (ns : List Nat) (w : World) (h : SerAt w A n ns) (hi : i < n) (hx : ns[i]? = some x) (hb : w.cell? ⟨bl, 0, none⟩ = some (.slice A' n' c')) (hn' : (tagsOf x).length = n') (hs : Sl w 2 A' n' ((tagsOf x).flatMap gT)) :
    Calls Try.prog 28 #[.slice A i cc, .func (.func 29) #[] #[.pointer (some ⟨bl, 0, none⟩)]] w fun e w' => e = .returned (.bool false) ∧ Below w.heap.size w w' := by
  go_enter Try.func28, Try.ntmps28
  go_wp2_with fail
  refine (index_sers bl A n c i x A' n' c' cc ns w h hi hx hb hn' hs).mono ?_
  rintro e w2 ⟨rfl, b2⟩
  go_wp2
  go_ret
  exact ⟨rfl, b2⟩

set_option maxRecDepth 100000 in
set_option maxHeartbeats 8000000 in
theorem tags_may (A : Option Addr) (n c : Nat) (ns : List Nat) (w : World) (hnc : n ≤ c) (h : SerAt w A n ns) :
    Calls Try.prog 18 #[.slice A n c] w fun e w' => e = .returned (.bool true) ∧ Below w.heap.size w w' := by
  have H := hid h
  have hn30 := h.most
  clear h
  have hmf : ∀ (fn : Fn) (first cap : Array Value) (w : World), (Instr.makeFunc fn first cap).run Try.prog w = .ok (.func fn first cap) w := fun _ _ _ _ => rfl
  go_enter Try.func18, Try.ntmps18
  go_wp2
  go_loopw [9] (fun q wr => ∃ i : Nat, i ≤ n ∧ q = .int .i64 i ∧ Hid (Below w.heap.size w wr)) (fun q _ => n - (intOf q).toNat)
  case atStart => exact ⟨0, Nat.zero_le _, rfl, hid (bnil _)⟩
  case round =>
    obtain ⟨i, hi, rfl, HW⟩ := hrel
    by_cases hlt : i < n
    · obtain ⟨ad0, x, A', m, c', rfl, hx, hx64, cx, hxm, hxs⟩ := (H.out.below HW.out).at_ hlt
      have i1 : (i : Int) < (n : Int) := by omega
      have hm3 : m ≤ 3 := by rw [← hxm]; exact (tags_ok x hx64).1
      obtain ⟨W1, hW1⟩ : ∃ W1, wr.alloc (.cells #[.slice A' m c'] 61) = W1 := ⟨_, rfl⟩
      obtain ⟨bl, hbl⟩ : ∃ bl, wr.heap.size = bl := ⟨_, rfl⟩
      have HW1 := hid hW1
      have HBL := hid hbl
      have B1 := hid (show Blk W1 bl 61 #[.slice A' m c'] by rw [← hW1, ← hbl]; exact Blk.new _ _ _)
      have Z1 := hid (show Below wr.heap.size wr W1 by rw [← hW1]; exact bnew (bnil wr) _)
      have HXS := hid (hxs.below Z1.out)
      have HXM := hid hxm
      have HX := hid hx
      clear hW1 hbl hxs hxm hx
      have l0 := B1.out.cell 0
      go_upto_block 2 with fail
      rw [HW1.out]
      simp only [HBL.out]
      have l0' : W1.cell? ⟨bl, 0, none⟩ = some (.slice A' m c') := l0
      clear l0
      go_wp2_with fail
      go_loopw [16] (fun q w2 => ∃ k : Nat, k ≤ m ∧ q = .int .i64 k ∧ Hid (Below W1.heap.size W1 w2)) (fun q _ => m - (intOf q).toNat)
      case atStart => exact ⟨0, Nat.zero_le _, rfl, hid (bnil _)⟩
      case round =>
        obtain ⟨k, hk, rfl, HV⟩ := hrel
        have HV0 := hid (cell_below HV.out l0')
        by_cases hk2 : k < m
        · obtain ⟨ad, t, rfl, ht, c1, c2⟩ := tags_at (HXS.out.below HV.out) HXM.out hk2
          have htm := (tags_ok x hx64).2 t (List.mem_of_getElem? ht)
          have HXO := hid (show t.2 ≠ 0 by omega)
          have HTT := hid ht
          have i2 : (k : Int) < (m : Int) := by omega
          obtain ⟨W7, hW7⟩ : ∃ W7, wr.alloc (.cells #[.string (kS t.1), .string (vS t.2)] 43) = W7 := ⟨_, rfl⟩
          obtain ⟨X, hX⟩ : ∃ X, wr.heap.size = X := ⟨_, rfl⟩
          have HW7 := hid hW7
          have HXX := hid hX
          have B7 := hid (show Blk W7 X 43 #[.string (kS t.1), .string (vS t.2)] by rw [← hW7, ← hX]; exact Blk.new _ _ _)
          have Z7 := hid (show Below wr.heap.size wr W7 by rw [← hW7]; exact bnew (bnil wr) _)
          clear hW7 hX ht htm
          have ZZ := hid (fun (w' : World) (hb : Below W7.heap.size W7 w') => bgo HV.out (bgo Z7.out hb))
          by_cases hk0 : k = 0
          · have q0 : decide ((0 : Int) < (k : Int)) = false := by simp [hk0]
            have HK0 := hid hk0
            have HS7 := hid (fun w' (hb : Below W7.heap.size W7 w') => show w'.cell? ⟨X, 0, none⟩ = some (.string (kS t.1)) ∧ w'.cell? ⟨X, 1, none⟩ = some (.string (vS t.2)) from ⟨(B7.out.below' hb).cell 0, (B7.out.below' hb).cell 1⟩)
            clear hk0
            go_upto_region 7 with fail
            rw [HW7.out]
            simp only [HXX.out]
            refine wp_region_held_drew (S := (fun w' => w'.cell? ⟨X, 0, none⟩ = some (.string (kS t.1)) ∧ w'.cell? ⟨X, 1, none⟩ = some (.string (vS t.2)))) (by kernel_rfl) ?_ (fun hHeld => ?_)
            · (try dsimp only); first | assumption | exact HS7.out _ (bnil _).drew | exact HS7.out _ Z5.out | exact HS7.out _ Z6.out
            refine wpAnyH_take (i := 0) (oi := ⟨some 21, _, _, _, _, _⟩) (v := ?_) rfl (by kernel_rfl) (by kernel_rfl) (by kernel_rfl) (fun _ _ _ h => h) (Or.inl ⟨by rfl, ?_⟩) (by assumption) ?_
            rotate_left
            · intro w hSw; (try dsimp only at hSw); go_simp <;> with_reducible rfl
            try simp only [Act.put, List.setIfInBounds_toArray, List.set_cons_zero, List.set_cons_succ]
            refine wpAnyH_take (i := 1) (oi := ⟨some 22, _, _, _, _, _⟩) (v := ?_) rfl (by kernel_rfl) (by kernel_rfl) (by kernel_rfl) (fun _ _ _ h => h) (Or.inl ⟨by rfl, ?_⟩) (by assumption) ?_
            rotate_left
            · intro w hSw; (try dsimp only at hSw); go_simp <;> with_reducible rfl
            try simp only [Act.put, List.setIfInBounds_toArray, List.set_cons_zero, List.set_cons_succ]
            refine wpAnyH_ready (rs := [2]) (by kernel_rfl) (by simp) ?_
            refine AllReadyH.cons (o := ⟨some 23, _, _, _, _, _⟩) rfl (fun K hK => ?_) AllReadyH.nil
            go_simp
            (refine (name_of (kS t.1) _ (nam_k _)).mono ?_; rintro e w5 ⟨rfl, z5⟩; have Z5 := hid (bgo (bnil _).drew z5); clear z5)
            go_wp2_with fail
            refine hK.out _ _ ?_ (fun hHeld => ?_)
            · (try dsimp only); first | assumption | exact HS7.out _ (bnil _).drew | exact HS7.out _ Z5.out | exact HS7.out _ Z6.out
            clear hK K
            try simp only [Act.put, List.setIfInBounds_toArray, List.set_cons_zero, List.set_cons_succ]
            refine wpAnyH_take (i := 3) (oi := ⟨some 24, _, _, _, _, _⟩) (v := ?_) rfl (by kernel_rfl) (by kernel_rfl) (by kernel_rfl) (fun _ _ _ h => h) (Or.inl ⟨by rfl, ?_⟩) (by assumption) ?_
            rotate_left
            · intro w hSw; (try dsimp only at hSw); go_simp <;> with_reducible rfl
            try simp only [Act.put, List.setIfInBounds_toArray, List.set_cons_zero, List.set_cons_succ]
            refine wpAnyH_take (i := 4) (oi := ⟨some 25, _, _, _, _, _⟩) (v := ?_) rfl (by kernel_rfl) (by kernel_rfl) (by kernel_rfl) (fun _ _ _ h => h) (Or.inl ⟨by rfl, ?_⟩) (by assumption) ?_
            rotate_left
            · intro w hSw; (try dsimp only at hSw); go_simp <;> with_reducible rfl
            try simp only [Act.put, List.setIfInBounds_toArray, List.set_cons_zero, List.set_cons_succ]
            refine wpAnyH_take (i := 5) (oi := ⟨some 26, _, _, _, _, _⟩) (v := ?_) rfl (by kernel_rfl) (by kernel_rfl) (by kernel_rfl) (fun _ _ _ h => h) (Or.inl ⟨by rfl, ?_⟩) (by assumption) ?_
            rotate_left
            · intro w hSw; (try dsimp only at hSw); go_simp <;> with_reducible rfl
            try simp only [Act.put, List.setIfInBounds_toArray, List.set_cons_zero, List.set_cons_succ]
            refine wpAnyH_take (i := 6) (oi := ⟨some 27, _, _, _, _, _⟩) (v := ?_) rfl (by kernel_rfl) (by kernel_rfl) (by kernel_rfl) (fun _ _ _ h => h) (Or.inl ⟨by rfl, ?_⟩) (by assumption) ?_
            rotate_left
            · intro w hSw; (try dsimp only at hSw); go_simp <;> with_reducible rfl
            try simp only [Act.put, List.setIfInBounds_toArray, List.set_cons_zero, List.set_cons_succ]
            refine wpAnyH_ready (rs := [7]) (by kernel_rfl) (by simp) ?_
            refine AllReadyH.cons (o := ⟨some 28, _, _, _, _, _⟩) rfl (fun K hK => ?_) AllReadyH.nil
            go_simp
            (refine (name_of (vS t.2) _ (nam_v _ HXO.out)).mono ?_; rintro e w6 ⟨rfl, z6⟩; have Z6 := hid (bgo Z5.out z6); clear z6)
            go_wp2_with fail
            refine hK.out _ _ ?_ (fun hHeld => ?_)
            · (try dsimp only); first | assumption | exact HS7.out _ (bnil _).drew | exact HS7.out _ Z5.out | exact HS7.out _ Z6.out
            clear hK K
            try simp only [Act.put, List.setIfInBounds_toArray, List.set_cons_zero, List.set_cons_succ]
            refine wpAnyH_take (i := 8) (oi := ⟨some 29, _, _, _, _, _⟩) (v := ?_) rfl (by kernel_rfl) (by kernel_rfl) (by kernel_rfl) (fun _ _ _ h => h) (Or.inl ⟨by rfl, ?_⟩) (by assumption) ?_
            rotate_left
            · intro w hSw; (try dsimp only at hSw); go_simp <;> with_reducible rfl
            try simp only [Act.put, List.setIfInBounds_toArray, List.set_cons_zero, List.set_cons_succ]
            refine wpAnyH_take (i := 9) (oi := ⟨some 30, _, _, _, _, _⟩) (v := ?_) rfl (by kernel_rfl) (by kernel_rfl) (by kernel_rfl) (fun _ _ _ h => h) (Or.inl ⟨by rfl, ?_⟩) (by assumption) ?_
            rotate_left
            · intro w hSw; (try dsimp only at hSw); go_simp <;> with_reducible rfl
            try simp only [Act.put, List.setIfInBounds_toArray, List.set_cons_zero, List.set_cons_succ]
            refine wpAnyH_take (i := 10) (oi := ⟨some 31, _, _, _, _, _⟩) (v := ?_) rfl (by kernel_rfl) (by kernel_rfl) (by kernel_rfl) (fun _ _ _ h => h) (Or.inl ⟨by rfl, ?_⟩) (by assumption) ?_
            rotate_left
            · intro w hSw; (try dsimp only at hSw); go_simp <;> with_reducible rfl
            try simp only [Act.put, List.setIfInBounds_toArray, List.set_cons_zero, List.set_cons_succ]
            refine wpAnyH_take (i := 11) (oi := ⟨some 32, _, _, _, _, _⟩) (v := ?_) rfl (by kernel_rfl) (by kernel_rfl) (by kernel_rfl) (fun _ _ _ h => h) (Or.inl ⟨by rfl, ?_⟩) (by assumption) ?_
            rotate_left
            · intro w hSw; (try dsimp only at hSw); go_simp <;> with_reducible rfl
            try simp only [Act.put, List.setIfInBounds_toArray, List.set_cons_zero, List.set_cons_succ]
            refine wpAnyH_take (i := 12) (oi := ⟨some 33, _, _, _, _, _⟩) (v := .bool false) rfl (by kernel_rfl) (by kernel_rfl) (by kernel_rfl) (fun _ _ _ h => h) (Or.inl ⟨by rfl, ?_⟩) (by assumption) ?_
            · intro w hSw; (try dsimp only at hSw); go_simp <;> (first | with_reducible rfl | rfl | (have := HK0.out; omega) | omega)
            try simp only [Act.put, List.setIfInBounds_toArray, List.set_cons_zero, List.set_cons_succ]
            refine wpAnyH_take (i := 13) (oi := ⟨some 34, _, _, _, _, _⟩) (v := ?_) rfl (by kernel_rfl) (by kernel_rfl) (by kernel_rfl) (fun _ _ _ h => h) (Or.inl ⟨by rfl, ?_⟩) (by assumption) ?_
            rotate_left
            · intro w hSw; (try dsimp only at hSw); go_simp <;> with_reducible rfl
            try simp only [Act.put, List.setIfInBounds_toArray, List.set_cons_zero, List.set_cons_succ]
            refine wpAnyH_take (i := 14) (oi := ⟨some 35, _, _, _, _, _⟩) (v := undef) rfl (by kernel_rfl) (by kernel_rfl) (by kernel_rfl) (fun _ _ _ h => h) (Or.inr ⟨by rfl, rfl⟩) (by assumption) ?_
            try simp only [Act.put, List.setIfInBounds_toArray, List.set_cons_zero, List.set_cons_succ]
            refine wpAnyH_take (i := 15) (oi := ⟨some 36, _, _, _, _, _⟩) (v := undef) rfl (by kernel_rfl) (by kernel_rfl) (by kernel_rfl) (fun _ _ _ h => h) (Or.inr ⟨by rfl, rfl⟩) (by assumption) ?_
            try simp only [Act.put, List.setIfInBounds_toArray, List.set_cons_zero, List.set_cons_succ]
            refine wpAnyH_take (i := 16) (oi := ⟨some 37, _, _, _, _, _⟩) (v := undef) rfl (by kernel_rfl) (by kernel_rfl) (by kernel_rfl) (fun _ _ _ h => h) (Or.inr ⟨by rfl, rfl⟩) (by assumption) ?_
            try simp only [Act.put, List.setIfInBounds_toArray, List.set_cons_zero, List.set_cons_succ]
            refine wpAnyH_take (i := 17) (oi := ⟨some 38, _, _, _, _, _⟩) (v := undef) rfl (by kernel_rfl) (by kernel_rfl) (by kernel_rfl) (fun _ _ _ h => h) (Or.inr ⟨by rfl, rfl⟩) (by assumption) ?_
            try simp only [Act.put, List.setIfInBounds_toArray, List.set_cons_zero, List.set_cons_succ]
            refine wpAnyH_take (i := 18) (oi := ⟨some 39, _, _, _, _, _⟩) (v := undef) rfl (by kernel_rfl) (by kernel_rfl) (by kernel_rfl) (fun _ _ _ h => h) (Or.inr ⟨by rfl, rfl⟩) (by assumption) ?_
            try simp only [Act.put, List.setIfInBounds_toArray, List.set_cons_zero, List.set_cons_succ]
            refine wpAnyH_take (i := 19) (oi := ⟨some 40, _, _, _, _, _⟩) (v := undef) rfl (by kernel_rfl) (by kernel_rfl) (by kernel_rfl) (fun _ _ _ h => h) (Or.inr ⟨by rfl, rfl⟩) (by assumption) ?_
            try simp only [Act.put, List.setIfInBounds_toArray, List.set_cons_zero, List.set_cons_succ]
            refine wpAnyH_take (i := 20) (oi := ⟨some 41, _, _, _, _, _⟩) (v := undef) rfl (by kernel_rfl) (by kernel_rfl) (by kernel_rfl) (fun _ _ _ h => h) (Or.inr ⟨by rfl, rfl⟩) (by assumption) ?_
            try simp only [Act.put, List.setIfInBounds_toArray, List.set_cons_zero, List.set_cons_succ]
            refine wpAnyH_take (i := 21) (oi := ⟨some 42, _, _, _, _, _⟩) (v := undef) rfl (by kernel_rfl) (by kernel_rfl) (by kernel_rfl) (fun _ _ _ h => h) (Or.inr ⟨by rfl, rfl⟩) (by assumption) ?_
            try simp only [Act.put, List.setIfInBounds_toArray, List.set_cons_zero, List.set_cons_succ]
            refine wpAnyH_take (i := 22) (oi := ⟨some 43, _, _, _, _, _⟩) (v := undef) rfl (by kernel_rfl) (by kernel_rfl) (by kernel_rfl) (fun _ _ _ h => h) (Or.inr ⟨by rfl, rfl⟩) (by assumption) ?_
            try simp only [Act.put, List.setIfInBounds_toArray, List.set_cons_zero, List.set_cons_succ]
            refine wpAnyH_take (i := 23) (oi := ⟨some 44, _, _, _, _, _⟩) (v := ?_) rfl (by kernel_rfl) (by kernel_rfl) (by kernel_rfl) (fun _ _ _ h => h) (Or.inl ⟨by rfl, ?_⟩) (by assumption) ?_
            rotate_left
            · intro w hSw; (try dsimp only at hSw); go_simp <;> with_reducible rfl
            try simp only [Act.put, List.setIfInBounds_toArray, List.set_cons_zero, List.set_cons_succ]
            refine wpAnyH_take (i := 24) (oi := ⟨some 45, _, _, _, _, _⟩) (v := ?_) rfl (by kernel_rfl) (by kernel_rfl) (by kernel_rfl) (fun _ _ _ h => h) (Or.inl ⟨by rfl, ?_⟩) (by assumption) ?_
            rotate_left
            · intro w hSw; (try dsimp only at hSw); go_simp <;> with_reducible rfl
            try simp only [Act.put, List.setIfInBounds_toArray, List.set_cons_zero, List.set_cons_succ]
            refine wpAnyH_done (by kernel_rfl) ?_ _
            rotate_left
            all_goals
              have ZB := hid (ZZ.out _ Z6.out)
              clear hHeld
              go_wp2_with fail
              go_roundw
              case rel => exact ⟨k + 1, by omega, by go_num, ZB⟩
              case measure => simp [intOf]; omega
          · obtain ⟨k', hk'⟩ : ∃ k', k = k' + 1 := ⟨k - 1, by omega⟩
            have q0 : decide ((0 : Int) < (k : Int)) = true := by simp; omega
            obtain ⟨ad', y, had', hy, d1, d2⟩ := tags_at (HXS.out.below HV.out) HXM.out (show k' < m by omega)
            injection had' with had'
            subst had'
            have hasc : y.1 < t.1 := by
              have h1 := tags_asc x hx64
              have h2 := HTT.out
              rw [List.pairwise_iff_getElem] at h1
              obtain ⟨l1, e1⟩ := List.getElem?_eq_some_iff.1 hy
              obtain ⟨l2, e2⟩ := List.getElem?_eq_some_iff.1 h2
              have := h1 k' k l1 l2 (by omega)
              rw [e1, e2] at this
              exact this
            have hy3 : y.1 < 3 := ((tags_ok x hx64).2 y (List.mem_of_getElem? hy)).1
            have ht3 : t.1 < 3 := ((tags_ok x hx64).2 t (List.mem_of_getElem? HTT.out)).1
            have qs : Op.bytesLess (kS y.1).toList (kS t.1).toList = true := by rw [kS_lt y.1 hy3 t.1 ht3]; simp [hasc]
            have hge : ∀ w : World, (binOp .geq 9 (.string (kS y.1)) (.string (kS t.1))).run Try.prog w = .ok (.bool false) w := fun w => by simp [binOp, Op.stringOp, qs]
            have ik : IntKind.i64.wrap ((k : Int) - 1) = (k' : Int) := by rw [IntWalk.i64_in _ (by omega)]; omega
            have ik2 : (k' : Int) < (m : Int) := by omega
            have ik0 : (0 : Int) ≤ (k' : Int) := by omega
            have HS7 := hid (fun w' (hb : Below W7.heap.size W7 w') => show w'.cell? ⟨X, 0, none⟩ = some (.string (kS t.1)) ∧ w'.cell? ⟨X, 1, none⟩ = some (.string (vS t.2)) ∧ w'.cell? ⟨bl, 0, none⟩ = some (.slice (some ad) m c') ∧ w'.cell? (ad.add (k' * 2)) = some (.string (kS y.1)) from
              ⟨(B7.out.below' hb).cell 0, (B7.out.below' hb).cell 1, cell_below (bgo Z7.out hb) HV0.out, cell_below (bgo Z7.out hb) d1⟩)
            have HK9 := hid hk'
            clear hk' hasc hy3 ht3 hy hk0 qs
            go_upto_region 7 with fail
            rw [HW7.out]
            simp only [HXX.out]
            refine wp_region_held_drew (S := (fun w' => w'.cell? ⟨X, 0, none⟩ = some (.string (kS t.1)) ∧ w'.cell? ⟨X, 1, none⟩ = some (.string (vS t.2)) ∧ w'.cell? ⟨bl, 0, none⟩ = some (.slice (some ad) m c') ∧ w'.cell? (ad.add (k' * 2)) = some (.string (kS y.1)))) (by kernel_rfl) ?_ (fun hHeld => ?_)
            · (try dsimp only); first | assumption | exact HS7.out _ (bnil _).drew | exact HS7.out _ Z5.out | exact HS7.out _ Z6.out
            refine wpAnyH_take (i := 0) (oi := ⟨some 21, _, _, _, _, _⟩) (v := ?_) rfl (by kernel_rfl) (by kernel_rfl) (by kernel_rfl) (fun _ _ _ h => h) (Or.inl ⟨by rfl, ?_⟩) (by assumption) ?_
            rotate_left
            · intro w hSw; (try dsimp only at hSw); go_simp <;> with_reducible rfl
            try simp only [Act.put, List.setIfInBounds_toArray, List.set_cons_zero, List.set_cons_succ]
            refine wpAnyH_take (i := 1) (oi := ⟨some 22, _, _, _, _, _⟩) (v := ?_) rfl (by kernel_rfl) (by kernel_rfl) (by kernel_rfl) (fun _ _ _ h => h) (Or.inl ⟨by rfl, ?_⟩) (by assumption) ?_
            rotate_left
            · intro w hSw; (try dsimp only at hSw); go_simp <;> with_reducible rfl
            try simp only [Act.put, List.setIfInBounds_toArray, List.set_cons_zero, List.set_cons_succ]
            refine wpAnyH_ready (rs := [2]) (by kernel_rfl) (by simp) ?_
            refine AllReadyH.cons (o := ⟨some 23, _, _, _, _, _⟩) rfl (fun K hK => ?_) AllReadyH.nil
            go_simp
            (refine (name_of (kS t.1) _ (nam_k _)).mono ?_; rintro e w5 ⟨rfl, z5⟩; have Z5 := hid (bgo (bnil _).drew z5); clear z5)
            go_wp2_with fail
            refine hK.out _ _ ?_ (fun hHeld => ?_)
            · (try dsimp only); first | assumption | exact HS7.out _ (bnil _).drew | exact HS7.out _ Z5.out | exact HS7.out _ Z6.out
            clear hK K
            try simp only [Act.put, List.setIfInBounds_toArray, List.set_cons_zero, List.set_cons_succ]
            refine wpAnyH_take (i := 3) (oi := ⟨some 24, _, _, _, _, _⟩) (v := ?_) rfl (by kernel_rfl) (by kernel_rfl) (by kernel_rfl) (fun _ _ _ h => h) (Or.inl ⟨by rfl, ?_⟩) (by assumption) ?_
            rotate_left
            · intro w hSw; (try dsimp only at hSw); go_simp <;> with_reducible rfl
            try simp only [Act.put, List.setIfInBounds_toArray, List.set_cons_zero, List.set_cons_succ]
            refine wpAnyH_take (i := 4) (oi := ⟨some 25, _, _, _, _, _⟩) (v := ?_) rfl (by kernel_rfl) (by kernel_rfl) (by kernel_rfl) (fun _ _ _ h => h) (Or.inl ⟨by rfl, ?_⟩) (by assumption) ?_
            rotate_left
            · intro w hSw; (try dsimp only at hSw); go_simp <;> with_reducible rfl
            try simp only [Act.put, List.setIfInBounds_toArray, List.set_cons_zero, List.set_cons_succ]
            refine wpAnyH_take (i := 5) (oi := ⟨some 26, _, _, _, _, _⟩) (v := ?_) rfl (by kernel_rfl) (by kernel_rfl) (by kernel_rfl) (fun _ _ _ h => h) (Or.inl ⟨by rfl, ?_⟩) (by assumption) ?_
            rotate_left
            · intro w hSw; (try dsimp only at hSw); go_simp <;> with_reducible rfl
            try simp only [Act.put, List.setIfInBounds_toArray, List.set_cons_zero, List.set_cons_succ]
            refine wpAnyH_take (i := 6) (oi := ⟨some 27, _, _, _, _, _⟩) (v := ?_) rfl (by kernel_rfl) (by kernel_rfl) (by kernel_rfl) (fun _ _ _ h => h) (Or.inl ⟨by rfl, ?_⟩) (by assumption) ?_
            rotate_left
            · intro w hSw; (try dsimp only at hSw); go_simp <;> with_reducible rfl
            try simp only [Act.put, List.setIfInBounds_toArray, List.set_cons_zero, List.set_cons_succ]
            refine wpAnyH_ready (rs := [7]) (by kernel_rfl) (by simp) ?_
            refine AllReadyH.cons (o := ⟨some 28, _, _, _, _, _⟩) rfl (fun K hK => ?_) AllReadyH.nil
            go_simp
            (refine (name_of (vS t.2) _ (nam_v _ HXO.out)).mono ?_; rintro e w6 ⟨rfl, z6⟩; have Z6 := hid (bgo Z5.out z6); clear z6)
            go_wp2_with fail
            refine hK.out _ _ ?_ (fun hHeld => ?_)
            · (try dsimp only); first | assumption | exact HS7.out _ (bnil _).drew | exact HS7.out _ Z5.out | exact HS7.out _ Z6.out
            clear hK K
            try simp only [Act.put, List.setIfInBounds_toArray, List.set_cons_zero, List.set_cons_succ]
            refine wpAnyH_take (i := 8) (oi := ⟨some 29, _, _, _, _, _⟩) (v := ?_) rfl (by kernel_rfl) (by kernel_rfl) (by kernel_rfl) (fun _ _ _ h => h) (Or.inl ⟨by rfl, ?_⟩) (by assumption) ?_
            rotate_left
            · intro w hSw; (try dsimp only at hSw); go_simp <;> with_reducible rfl
            try simp only [Act.put, List.setIfInBounds_toArray, List.set_cons_zero, List.set_cons_succ]
            refine wpAnyH_take (i := 9) (oi := ⟨some 30, _, _, _, _, _⟩) (v := ?_) rfl (by kernel_rfl) (by kernel_rfl) (by kernel_rfl) (fun _ _ _ h => h) (Or.inl ⟨by rfl, ?_⟩) (by assumption) ?_
            rotate_left
            · intro w hSw; (try dsimp only at hSw); go_simp <;> with_reducible rfl
            try simp only [Act.put, List.setIfInBounds_toArray, List.set_cons_zero, List.set_cons_succ]
            refine wpAnyH_take (i := 10) (oi := ⟨some 31, _, _, _, _, _⟩) (v := ?_) rfl (by kernel_rfl) (by kernel_rfl) (by kernel_rfl) (fun _ _ _ h => h) (Or.inl ⟨by rfl, ?_⟩) (by assumption) ?_
            rotate_left
            · intro w hSw; (try dsimp only at hSw); go_simp <;> with_reducible rfl
            try simp only [Act.put, List.setIfInBounds_toArray, List.set_cons_zero, List.set_cons_succ]
            refine wpAnyH_take (i := 11) (oi := ⟨some 32, _, _, _, _, _⟩) (v := ?_) rfl (by kernel_rfl) (by kernel_rfl) (by kernel_rfl) (fun _ _ _ h => h) (Or.inl ⟨by rfl, ?_⟩) (by assumption) ?_
            rotate_left
            · intro w hSw; (try dsimp only at hSw); go_simp <;> with_reducible rfl
            try simp only [Act.put, List.setIfInBounds_toArray, List.set_cons_zero, List.set_cons_succ]
            refine wpAnyH_take (i := 12) (oi := ⟨some 33, _, _, _, _, _⟩) (v := .bool true) rfl (by kernel_rfl) (by kernel_rfl) (by kernel_rfl) (fun _ _ _ h => h) (Or.inl ⟨by rfl, ?_⟩) (by assumption) ?_
            · intro w hSw; (try dsimp only at hSw); go_simp <;> (first | with_reducible rfl | rfl | (have := HK9.out; omega) | omega)
            try simp only [Act.put, List.setIfInBounds_toArray, List.set_cons_zero, List.set_cons_succ]
            refine wpAnyH_take (i := 13) (oi := ⟨some 34, _, _, _, _, _⟩) (v := ?_) rfl (by kernel_rfl) (by kernel_rfl) (by kernel_rfl) (fun _ _ _ h => h) (Or.inl ⟨by rfl, ?_⟩) (by assumption) ?_
            rotate_left
            · intro w hSw; (try dsimp only at hSw); go_simp <;> with_reducible rfl
            try simp only [Act.put, List.setIfInBounds_toArray, List.set_cons_zero, List.set_cons_succ]
            refine wpAnyH_take (i := 14) (oi := ⟨some 35, _, _, _, _, _⟩) (v := ?_) rfl (by kernel_rfl) (by kernel_rfl) (by kernel_rfl) (fun _ _ _ h => h) (Or.inl ⟨by rfl, ?_⟩) (by assumption) ?_
            rotate_left
            · intro w hSw; (try dsimp only at hSw); go_simp <;> with_reducible rfl
            try simp only [Act.put, List.setIfInBounds_toArray, List.set_cons_zero, List.set_cons_succ]
            refine wpAnyH_take (i := 15) (oi := ⟨some 36, _, _, _, _, _⟩) (v := ?_) rfl (by kernel_rfl) (by kernel_rfl) (by kernel_rfl) (fun _ _ _ h => h) (Or.inl ⟨by rfl, ?_⟩) (by assumption) ?_
            rotate_left
            · intro w hSw; (try dsimp only at hSw); go_simp <;> with_reducible rfl
            try simp only [Act.put, List.setIfInBounds_toArray, List.set_cons_zero, List.set_cons_succ]
            refine wpAnyH_take (i := 16) (oi := ⟨some 37, _, _, _, _, _⟩) (v := ?_) rfl (by kernel_rfl) (by kernel_rfl) (by kernel_rfl) (fun _ _ _ h => h) (Or.inl ⟨by rfl, ?_⟩) (by assumption) ?_
            rotate_left
            · intro w hSw; (try dsimp only at hSw); go_simp <;> with_reducible rfl
            try simp only [Act.put, List.setIfInBounds_toArray, List.set_cons_zero, List.set_cons_succ]
            refine wpAnyH_take (i := 17) (oi := ⟨some 38, _, _, _, _, _⟩) (v := ?_) rfl (by kernel_rfl) (by kernel_rfl) (by kernel_rfl) (fun _ _ _ h => h) (Or.inl ⟨by rfl, ?_⟩) (by assumption) ?_
            rotate_left
            · intro w hSw; (try dsimp only at hSw); go_simp <;> with_reducible rfl
            try simp only [Act.put, List.setIfInBounds_toArray, List.set_cons_zero, List.set_cons_succ]
            refine wpAnyH_take (i := 18) (oi := ⟨some 39, _, _, _, _, _⟩) (v := ?_) rfl (by kernel_rfl) (by kernel_rfl) (by kernel_rfl) (fun _ _ _ h => h) (Or.inl ⟨by rfl, ?_⟩) (by assumption) ?_
            rotate_left
            · intro w hSw; (try dsimp only at hSw); go_simp <;> with_reducible rfl
            try simp only [Act.put, List.setIfInBounds_toArray, List.set_cons_zero, List.set_cons_succ]
            refine wpAnyH_take (i := 19) (oi := ⟨some 40, _, _, _, _, _⟩) (v := ?_) rfl (by kernel_rfl) (by kernel_rfl) (by kernel_rfl) (fun _ _ _ h => h) (Or.inl ⟨by rfl, ?_⟩) (by assumption) ?_
            rotate_left
            · intro w hSw; (try dsimp only at hSw); go_simp <;> with_reducible rfl
            try simp only [Act.put, List.setIfInBounds_toArray, List.set_cons_zero, List.set_cons_succ]
            refine wpAnyH_take (i := 20) (oi := ⟨some 41, _, _, _, _, _⟩) (v := ?_) rfl (by kernel_rfl) (by kernel_rfl) (by kernel_rfl) (fun _ _ _ h => h) (Or.inl ⟨by rfl, ?_⟩) (by assumption) ?_
            rotate_left
            · intro w hSw; (try dsimp only at hSw); go_simp <;> with_reducible rfl
            try simp only [Act.put, List.setIfInBounds_toArray, List.set_cons_zero, List.set_cons_succ]
            refine wpAnyH_take (i := 21) (oi := ⟨some 42, _, _, _, _, _⟩) (v := ?_) rfl (by kernel_rfl) (by kernel_rfl) (by kernel_rfl) (fun _ _ _ h => h) (Or.inl ⟨by rfl, ?_⟩) (by assumption) ?_
            rotate_left
            · intro w hSw; (try dsimp only at hSw); go_simp <;> with_reducible rfl
            try simp only [Act.put, List.setIfInBounds_toArray, List.set_cons_zero, List.set_cons_succ]
            refine wpAnyH_take (i := 22) (oi := ⟨some 43, _, _, _, _, _⟩) (v := ?_) rfl (by kernel_rfl) (by kernel_rfl) (by kernel_rfl) (fun _ _ _ h => h) (Or.inl ⟨by rfl, ?_⟩) (by assumption) ?_
            rotate_left
            · intro w hSw; (try dsimp only at hSw); go_simp <;> with_reducible rfl
            try simp only [Act.put, List.setIfInBounds_toArray, List.set_cons_zero, List.set_cons_succ]
            refine wpAnyH_take (i := 23) (oi := ⟨some 44, _, _, _, _, _⟩) (v := ?_) rfl (by kernel_rfl) (by kernel_rfl) (by kernel_rfl) (fun _ _ _ h => h) (Or.inl ⟨by rfl, ?_⟩) (by assumption) ?_
            rotate_left
            · intro w hSw; (try dsimp only at hSw); go_simp <;> with_reducible rfl
            try simp only [Act.put, List.setIfInBounds_toArray, List.set_cons_zero, List.set_cons_succ]
            refine wpAnyH_take (i := 24) (oi := ⟨some 45, _, _, _, _, _⟩) (v := ?_) rfl (by kernel_rfl) (by kernel_rfl) (by kernel_rfl) (fun _ _ _ h => h) (Or.inl ⟨by rfl, ?_⟩) (by assumption) ?_
            rotate_left
            · intro w hSw; (try dsimp only at hSw); go_simp <;> with_reducible rfl
            try simp only [Act.put, List.setIfInBounds_toArray, List.set_cons_zero, List.set_cons_succ]
            refine wpAnyH_done (by kernel_rfl) ?_ _
            rotate_left
            all_goals
              have ZB := hid (ZZ.out _ Z6.out)
              clear hHeld
              go_wp2_with fail
              go_roundw
              case rel => exact ⟨k + 1, by omega, by go_num, ZB⟩
              case measure => simp [intOf]; omega
        · obtain rfl : k = m := by omega
          have g0 := HV0.out
          have HCS := hid (fun cc => contains_sers bl (some ad0) n c i x A' k c' cc ns wr ((H.out.below HW.out).below (bgo Z1.out HV.out)) hlt HX.out HV0.out HXM.out (HXS.out.below HV.out))
          have q6 : decide ((6 : Int) < (k : Int)) = false := by simp; omega
          have i3 : (i : Int) ≤ (c : Int) := by omega
          go_wp2_with fail
          refine (HCS.out _).mono ?_
          rintro e w9 ⟨rfl, z9⟩
          have ZB := hid (bgo HW.out (bgo Z1.out (bgo HV.out z9)))
          clear z9
          go_wp2_with fail
          go_roundw
          case rel => exact ⟨i + 1, by omega, by go_num, ZB⟩
          case measure => simp [intOf]; omega
    · obtain rfl : i = n := by omega
      have q40 : decide ((i : Int) ≤ 40) = true := by simp; omega
      go_wp2_with fail
      go_ret
      exact ⟨by simp, HW.out⟩
end Go.Proofs.Ytfdgklfkpofkeaa
