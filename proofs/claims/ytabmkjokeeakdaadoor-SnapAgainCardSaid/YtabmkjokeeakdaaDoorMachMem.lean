/-
  A machine of three threads in memory of its own, that grows call by call.
-/
import Derived.Test.YtabmkjokeeakdaaDoorRunMem
namespace Go.Proofs.YtabmkjokeeakdaaDoor
open Go.RowKit
set_option linter.unusedVariables false

abbrev gS : VCall × SV → List Value := fun x => [.int .i64 (x.1.code : Int), x.2.v]
theorem gS_one (x : VCall × SV) : ∀ u ∈ gS x, u.oneCell' = true := by intro u hu; simp at hu; rcases hu with rfl | rfl <;> rfl
/-- a thread's calls in a row of the call's own -/
def CRow (B : Nat) (w : World) (tv : Value) (calls : List VCall) (avs : List SV) : Prop :=
  avs.length = calls.length ∧ w.ownsRow B 35 2 tv calls.length ((calls.zip avs).flatMap gS) ∧
    ∀ (k : Nat) (c : VCall) (v : SV), calls[k]? = some c → avs[k]? = some v → w.ownsRow B 3 1 v.v c.args.length (c.args.flatMap gI)
theorem CRow.nil (B : Nat) (w : World) : CRow B w (.slice none 0 0) [] [] := ⟨rfl, own0 w B _ 2, fun k c v h => by simp at h⟩
theorem CRow.chg {B : Nat} {w w' : World} {tv : Value} {calls : List VCall} {avs : List SV} {M : Nat → Prop} (h : CRow B w tv calls avs) (hc : Chg M w w') (h1 : ∀ k, tv.ownBlock = some k → ¬ M k)
    (h2 : ∀ (v : Value) (n : Nat) (xs : List Value), w.ownsRow B 3 1 v n xs → ∀ k, v.ownBlock = some k → ¬ M k) : CRow B w' tv calls avs :=
  ⟨h.1, own_chg h.2.1 hc h1, fun k c v hk hv => own_chg (h.2.2 k c v hk hv) hc (h2 v.v _ _ (h.2.2 k c v hk hv))⟩
theorem CRow.below {B : Nat} {w w' : World} {tv : Value} {calls : List VCall} {avs : List SV} (h : CRow B w tv calls avs) (hb : Below w.heap.size w w') : CRow B w' tv calls avs :=
  ⟨h.1, own_below h.2.1 hb, fun k c v hk hv => own_below (h.2.2 k c v hk hv) hb⟩
structure ML (B : Nat) (w : World) (Wb Cb T : Nat) (c1 c2 : Value) (tv : Nat → Value) (k1 k2 : List Op5) (th : Nat → List VCall) (av : Nat → List SV) : Prop where
  geW : B ≤ Wb
  geC : B ≤ Cb
  geT : B ≤ T
  wb : Blk w Wb 3 #[.int .i64 0, .int .i64 0, .int .i64 0, .int .i64 0, .int .i64 0, .int .i64 0, .int .i64 0, .int .i64 0]
  cb : Blk w Cb 60 #[c1, c2]
  tb : Blk w T 33 #[tv 0, tv 1, tv 2]
  o1 : w.ownsRow B 99 5 c1 k1.length (k1.flatMap gO)
  o2 : w.ownsRow B 99 5 c2 k2.length (k2.flatMap gO)
  rows : ∀ j, j < 3 → CRow B w (tv j) (th j) (av j)
  dist : ∀ i j, i < 3 → j < 3 → i ≠ j → Apt (tv i) (tv j)
theorem ML.below {B : Nat} {w w' : World} {Wb Cb T : Nat} {c1 c2 : Value} {tv : Nat → Value} {k1 k2 : List Op5} {th : Nat → List VCall} {av : Nat → List SV} (h : ML B w Wb Cb T c1 c2 tv k1 k2 th av) (hb : Below w.heap.size w w') : ML B w' Wb Cb T c1 c2 tv k1 k2 th av :=
  ⟨h.geW, h.geC, h.geT, h.wb.below' hb, h.cb.below' hb, h.tb.below' hb, own_below h.o1 hb, own_below h.o2 hb, fun j hj => (h.rows j hj).below hb, h.dist⟩
theorem arr3 (f : Nat → Value) (j : Nat) (hj : j < 3) (v : Value) : (#[f 0, f 1, f 2] : Array Value).setIfInBounds j v = #[upd f j v 0, upd f j v 1, upd f j v 2] := by
  match j, hj with
  | 0, _ => rfl
  | 1, _ => rfl
  | 2, _ => rfl
theorem arr3_at (f : Nat → Value) (j : Nat) (hj : j < 3) : (#[f 0, f 1, f 2] : Array Value)[j]? = some (f j) := by
  match j, hj with
  | 0, _ => rfl
  | 1, _ => rfl
  | 2, _ => rfl
/-- a thread's row is another one -/
theorem ML.put {B : Nat} {w w' : World} {Wb Cb T : Nat} {c1 c2 : Value} {tv : Nat → Value} {k1 k2 : List Op5} {th : Nat → List VCall} {av : Nat → List SV} (h : ML B w Wb Cb T c1 c2 tv k1 k2 th av) {j : Nat} (hj : j < 3) {v' : Value} {cs : List VCall} {vs : List SV}
    (hG : w.grownBy w' (tv j).ownBlock) (hv : v'.ownBlock = (tv j).ownBlock ∨ v'.ownBlock = none ∨ ∃ b, v'.ownBlock = some b ∧ w.heap.size ≤ b) (hr : CRow B w' v' cs vs) :
    ML B (w'.setCell ⟨T, j, none⟩ v') Wb Cb T c1 c2 (upd tv j v') k1 k2 (upd th j cs) (upd av j vs) := by
  have hM := Chg.of_grown hG (M := fun k => (tv j).ownBlock = some k) (fun k e => e)
  have hrj := (h.rows j hj).2.1
  have hT : Blk w' T 33 #[tv 0, tv 1, tv 2] := hM.blk h.tb (own_ne_blk hrj h.tb (by decide))
  have hS : Chg (fun k => k = T) w' (w'.setCell ⟨T, j, none⟩ v') := (Chg.refl (fun k => k = T) w').setCell (p := ⟨T, j, none⟩) (fun _ => rfl) _
  have hS2 : Chg (fun k => (tv j).ownBlock = some k ∨ k = T) w (w'.setCell ⟨T, j, none⟩ v') :=
    ⟨hS.os.trans hM.os, hS.tape.trans hM.tape, hS.output.trans hM.output, Nat.le_trans hM.size hS.size, fun i hi hn => (hS.block i (Nat.lt_of_lt_of_le hi hM.size) fun e => hn (.inr e)).trans (hM.block i hi fun e => hn (.inl e))⟩
  have key : ∀ {e sz : Nat} {v : Value} {n : Nat} {xs : List Value}, e ≠ 33 → (e ≠ 35 ∨ Apt v (tv j)) → w.ownsRow B e sz v n xs → (w'.setCell ⟨T, j, none⟩ v').ownsRow B e sz v n xs := by
    intro e sz v n xs h1 h2 ho
    refine own_chg ho hS2 fun k hk hm => ?_
    rcases hm with hm | hm
    · rcases h2 with h2 | h2
      · exact h2 (own_ty ho hrj hk hm)
      · exact h2 k hk hm
    · exact own_ne_blk ho h.tb h1 (by rw [hk, hm])
  have bkey : ∀ {g t : Nat} {cs : Array Value}, t ≠ 33 → t ≠ 35 → Blk w g t cs → Blk (w'.setCell ⟨T, j, none⟩ v') g t cs := by
    intro g t cs h1 h2 hb
    refine hS2.blk hb fun hm => ?_
    rcases hm with hm | hm
    · exact own_ne_blk hrj hb (Ne.symm h2) hm
    · subst hm; exact h1 (blk_ty hb h.tb)
  refine ⟨h.geW, h.geC, h.geT, bkey (by decide) (by decide) h.wb, bkey (by decide) (by decide) h.cb, ?_, key (by decide) (.inl (by decide)) h.o1, key (by decide) (.inl (by decide)) h.o2, ?_, ?_⟩
  · rw [← arr3 tv j hj]; exact hT.set_ j v'
  · intro i hi
    by_cases e : i = j
    · subst e
      rw [upd_same, upd_same, upd_same]
      exact hr.chg hS (fun k hk e => own_ne_blk hr.2.1 hT (by decide) (by rw [hk, e])) (fun v n xs ho k hk e => own_ne_blk ho hT (by decide) (by rw [hk, e]))
    · rw [upd_ne _ _ _ _ e, upd_ne _ _ _ _ e, upd_ne _ _ _ _ e]
      obtain ⟨r1, r2, r3⟩ := h.rows i hi
      exact ⟨r1, key (by decide) (.inr (h.dist i j hi hj e)) r2, fun k c v hk hv => key (by decide) (.inl (by decide)) (r3 k c v hk hv)⟩
  · have hnew : ∀ i, i < 3 → i ≠ j → Apt (tv i) v' := by
      intro i hi hij b hb hb'
      rcases hv with e | e | ⟨b', e, hge⟩
      · rw [e] at hb'; exact h.dist i j hi hj hij b hb hb'
      · rw [e] at hb'; cases hb'
      · rw [e] at hb'; injection hb' with hb'; subst hb'
        have := (own_ge (h.rows i hi).2.1 b' hb).2
        omega
    intro a b ha hb hab
    by_cases ea : a = j
    · subst ea
      rw [upd_same, upd_ne _ _ _ _ (fun e => hab e.symm)]
      exact (hnew b hb (fun e => hab e.symm)).symm
    · rw [upd_ne _ _ _ _ ea]
      by_cases eb : b = j
      · subst eb; rw [upd_same]; exact hnew a ha ea
      · rw [upd_ne _ _ _ _ eb]; exact h.dist a b ha hb hab
/-- a thread that calls nothing -/
theorem ML.none_ {B : Nat} {w : World} {Wb Cb T : Nat} {c1 c2 : Value} {tv : Nat → Value} {k1 k2 : List Op5} {th : Nat → List VCall} {av : Nat → List SV} (h : ML B w Wb Cb T c1 c2 tv k1 k2 th av) {j : Nat} (hj : j < 3) :
    ML B (w.setCell ⟨T, j, none⟩ (.slice none 0 0)) Wb Cb T c1 c2 (upd tv j (.slice none 0 0)) k1 k2 (upd th j []) (upd av j []) :=
  h.put hj (World.grownBy.refl w _) (.inr (.inl rfl)) (CRow.nil B w)
/-- behind an append to a thread's row -/
theorem ML.grown {B : Nat} {w wA w6 : World} {Wb Cb T : Nat} {c1 c2 : Value} {tv : Nat → Value} {k1 k2 : List Op5} {th : Nat → List VCall} {av : Nat → List SV} (h : ML B w Wb Cb T c1 c2 tv k1 k2 th av) {j : Nat} (hj : j < 3) (hb : Below w.heap.size w wA) (hG : wA.grownBy w6 (tv j).ownBlock) :
    Blk w6 T 33 #[tv 0, tv 1, tv 2] ∧ ∀ {g t : Nat} {cs : Array Value}, t ≠ 35 → Blk w g t cs → Blk w6 g t cs := by
  have hA := h.below hb
  have hM := Chg.of_grown hG (M := fun k => (tv j).ownBlock = some k) (fun k e => e)
  have r2 := (hA.rows j hj).2.1
  have key : ∀ {g t : Nat} {cs : Array Value}, t ≠ 35 → Blk w g t cs → Blk w6 g t cs := fun h1 h2 => hM.blk (h2.below' hb) (own_ne_blk r2 (h2.below' hb) (Ne.symm h1))
  exact ⟨key (by decide) h.tb, key⟩
theorem ML.chg {B : Nat} {w wA w6 : World} {Wb Cb T : Nat} {c1 c2 : Value} {tv : Nat → Value} {k1 k2 : List Op5} {th : Nat → List VCall} {av : Nat → List SV} (h : ML B w Wb Cb T c1 c2 tv k1 k2 th av) {j : Nat} (hj : j < 3) (hb : Below w.heap.size w wA) (hG : wA.grownBy w6 (tv j).ownBlock) {w0 : World} (h0 : Below w0.heap.size w0 w) (hB : B = w0.heap.size) (v : Value) :
    Below w0.heap.size w0 w6 ∧ Below w0.heap.size w0 (w6.setCell ⟨T, j, none⟩ v) := by
  have hA := h.below hb
  have r2 := (hA.rows j hj).2.1
  have h1 := bgo h0 hb
  subst hB
  have h6 := h1.grown hG h1.size (fun k hk => (own_ge r2 k hk).1)
  exact ⟨h6, h6.setCell (p := ⟨T, j, none⟩) h.geT v⟩
/-- a call more -/
theorem ML.snoc {B : Nat} {w wA w6 : World} {Wb Cb T : Nat} {c1 c2 : Value} {tv : Nat → Value} {k1 k2 : List Op5} {th : Nat → List VCall} {av : Nat → List SV} (h : ML B w Wb Cb T c1 c2 tv k1 k2 th av) {j : Nat} (hj : j < 3) {v' : Value} {a : SV} (c : VCall) {y : List (VCall × SV)}
    (hb : Below w.heap.size w wA) (ha : wA.ownsRow B 3 1 a.v c.args.length (c.args.flatMap gI)) (hy : (th j).zip (av j) ++ [(c, a)] = y)
    (hG : wA.grownBy w6 (tv j).ownBlock) (hv : v'.ownBlock = (tv j).ownBlock ∨ v'.ownBlock = some wA.heap.size) (hr : w6.ownsRow B 35 2 v' y.length (y.flatMap gS)) :
    ML B (w6.setCell ⟨T, j, none⟩ v') Wb Cb T c1 c2 (upd tv j v') k1 k2 (upd th j (th j ++ [c])) (upd av j (av j ++ [a])) := by
  subst hy
  have hA := h.below hb
  obtain ⟨r1, r2, r3⟩ := hA.rows j hj
  have hM := Chg.of_grown hG (M := fun k => (tv j).ownBlock = some k) (fun k e => e)
  have hI : ∀ {v : Value} {n : Nat} {xs : List Value}, wA.ownsRow B 3 1 v n xs → w6.ownsRow B 3 1 v n xs := fun ho => own_chg ho hM fun k hk hm => absurd (own_ty ho r2 hk hm) (by decide)
  refine hA.put hj hG (by rcases hv with e | e; exact .inl e; exact .inr (.inr ⟨_, e, Nat.le_refl _⟩)) ⟨by simp [r1], ?_, ?_⟩
  · rw [List.zip_append r1.symm]
    simpa [r1] using hr
  · intro k d v hk hv
    rw [List.getElem?_append] at hk
    split at hk
    · rename_i hlt
      rw [List.getElem?_append_left (by omega)] at hv
      exact hI (r3 k d v hk hv)
    · rename_i hge
      rw [List.getElem?_singleton] at hk
      split at hk
      · injection hk with hk; subst hk
        rw [List.getElem?_append_right (by omega), List.getElem?_singleton, if_pos (by omega)] at hv
        injection hv with hv; subst hv
        exact hI ha
      · cases hk
theorem gS_gC : ∀ (l : List VCall) (r : List SV), (l.zip r).flatMap gS = (l.zip (r.map SV.v)).flatMap gC
  | [], _ => rfl
  | _ :: _, [] => rfl
  | x :: l, y :: r => by rw [List.zip_cons_cons, List.map_cons, List.zip_cons_cons, List.flatMap_cons, List.flatMap_cons, gS_gC l r]
/-- as run.Play sees it -/
theorem ML.at_ {B : Nat} {w : World} {Wb Cb T : Nat} {c1 c2 : Value} {tv : Nat → Value} {k1 k2 : List Op5} {th : Nat → List VCall} {av : Nat → List SV} (h : ML B w Wb Cb T c1 c2 tv k1 k2 th av)
    (h1 : k1.length ≤ 200) (h2 : k2.length ≤ 200) (s1 : ∀ o ∈ k1, OpSh k1.length o) (s2 : ∀ o ∈ k2, OpSh k2.length o) (hth : ∀ j, j < 3 → (th j).length ≤ 20 ∧ ∀ c ∈ th j, c.code < 2 ∧ c.args.length ≤ 8) :
    MachAt w (some ⟨Cb, 0, none⟩) 2 (some ⟨T, 0, none⟩) 3 ⟨List.replicate 8 0, [k1, k2], [th 0, th 1, th 2]⟩ := by
  have blkSl : ∀ {g t : Nat} {cs : Array Value}, Blk w g t cs → Sl w 1 (some ⟨g, 0, none⟩) cs.size cs.toList := fun hb => ⟨by simp, fun _ => ⟨_, rfl, fun j u hu => by rw [ad_at, hb.cell j]; simpa using hu⟩⟩
  refine ⟨rfl, rfl, ⟨[c1, c2], rfl, blkSl h.cb, ?_⟩, ⟨[tv 0, tv 1, tv 2], rfl, blkSl h.tb, ?_⟩⟩
  · intro i code hi
    have hone : ∀ {v : Value} {k : List Op5}, w.ownsRow B 99 5 v k.length (k.flatMap gO) → k.length ≤ 200 → (∀ o ∈ k, OpSh k.length o) → ∃ A n c, some v = some (.slice A n c) ∧ n ≤ 200 ∧ k.length = n ∧ (∀ o ∈ k, OpSh n o) ∧ Sl w 5 A n (k.flatMap gO) := by
      intro v k ho hk hs
      obtain ⟨A, c, rfl, _⟩ := own_form ho
      exact ⟨A, k.length, c, rfl, hk, rfl, hs, Sl.own ho⟩
    match i, hi with
    | 0, hi => injection hi with hi; subst hi; exact hone h.o1 h1 s1
    | 1, hi => injection hi with hi; subst hi; exact hone h.o2 h2 s2
    | i + 2, hi => simp at hi
  · intro j calls hj
    have hone : ∀ j, j < 3 → ∃ A n c, some (tv j) = some (.slice A n c) ∧ CallsAt w A n 2 (th j) := by
      intro j hj
      obtain ⟨r1, r2, r3⟩ := h.rows j hj
      obtain ⟨A, c, e, _⟩ := own_form r2
      rw [e] at r2 ⊢
      refine ⟨A, _, c, rfl, rfl, (hth j hj).1, (av j).map SV.v, by rw [List.length_map, r1], by rw [← gS_gC]; exact Sl.own r2, fun k c v hk hv => ?_⟩
      rw [List.getElem?_map] at hv
      obtain ⟨u, hu, rfl⟩ := Option.map_eq_some_iff.1 hv
      have hc := (hth j hj).2 c (List.mem_of_getElem? hk)
      have ho := r3 k c u hk hu
      obtain ⟨A', c', e', _⟩ := own_form ho
      rw [e'] at ho ⊢
      exact ⟨hc.1, A', _, c', rfl, hc.2, Sl.own ho⟩
    match j, hj with
    | 0, hj => injection hj with hj; subst hj; exact hone 0 (by decide)
    | 1, hj => injection hj with hj; subst hj; exact hone 1 (by decide)
    | 2, hj => injection hj with hj; subst hj; exact hone 2 (by decide)
    | j + 3, hj => simp at hj
theorem own_fresh (w : World) (cs : Array Value) (e : TypeId) (sz n g B : Nat) (hg : w.heap.size = g) (hB : B ≤ g) (hs : cs.size = n * sz) (hn : n ≤ maxLen) : (w.alloc (.cells cs e)).ownsRow B e sz (.slice (some ⟨g, 0, none⟩) n n) n cs.toList := by
  subst hg
  exact ⟨by simpa using hs, .inr ⟨w.heap.size, n, cs, rfl, hB, Blk.new w e cs, Nat.le_refl _, hn, hs, by rw [← hs, ← Array.length_toList, List.take_length]⟩⟩
theorem frozen_below {w w' : World} {p : Addr} {u : Value} (hb : Below w.heap.size w w') (hp : w.cell? p = some u) (hf : w.frozen? p = false) : w'.frozen? p = false := (hb.frozen (World.block_lt_of_cell? w _ hp)).trans hf
theorem sees3c {W w' : World} {p q r : Addr} {u v x : Value} (h : Below W.heap.size W w') (hp : W.cell? p = some u) (hq : W.cell? q = some v) (hr : W.cell? r = some x) (hf : W.frozen? q = false) : w'.cell? p = some u ∧ w'.cell? q = some v ∧ w'.cell? r = some x ∧ w'.frozen? q = false := ⟨cell_below h hp, cell_below h hq, cell_below h hr, frozen_below h hq hf⟩
theorem sees3d {W w' : World} {p q r : Addr} {u v x : Value} (h : Below W.heap.size W w') (hp : W.cell? p = some u) (hq : W.cell? q = some v) (hr : W.cell? r = some x) (hf : W.frozen? q = false) : w'.cell? p = some u ∧ w'.cell? r = some x ∧ w'.frozen? q = false := ⟨cell_below h hp, cell_below h hr, frozen_below h hq hf⟩
theorem step_appC {P : Program} {w : World} {t e : TypeId} {sz bytes : Nat} (E : Elm P t e sz bytes) {α : Type} {g : α → List Value} (hg : ∀ x, ∀ u ∈ g x, u.oneCell' = true) {ops : Array Oper} {o : Oper} {a : Act} {K : Act → World → Prop} {Q : Exit → Act → World → Prop} {D : Prop} (hw : Region.wanted o (yielded ops a.tmps) = true) (s x : Operand)
    (ho : o.op = .call { callee := .builtin .append, args := #[s, x], argTypes := #[t, t] })
    {base : Nat} (v : Value) (l : List α) (hs : a.eval s = v) (hown : w.ownsRow base e sz v l.length (l.flatMap g))
    {A : Option Addr} {n c : Nat} (m y : List α) (hy : Hid (l ++ m = y)) (hx : a.eval x = .slice A n c) (hr : Sl w sz A n (m.flatMap g)) (hn : m.length = n)
    (h63 : y.length ≤ maxLen) (hbytes : y.length * bytes ≤ 140737488355328) (hbase : base ≤ w.heap.size)
    (h : ∀ A' c' w', y.length ≤ c' → c' ≤ maxLen → Hid (w'.ownsRow base e sz (.slice A' y.length c') y.length (y.flatMap g)) → Hid (w.grownBy w' v.ownBlock) → Hid ((Value.slice A' y.length c').ownBlock = v.ownBlock ∨ (Value.slice A' y.length c').ownBlock = some w.heap.size) → K (a.put o.dst (.slice A' y.length c')) w') :
    if Region.wanted o (yielded ops a.tmps) = true then Oper.wp P o a w K Q else D := by
  rw [if_pos hw]
  have hy' : l ++ m = y := hy
  subst hy'
  subst hn
  rw [List.length_append] at h63 hbytes
  obtain ⟨i, z, hi, hz, hz1, hz2, hz3⟩ := E.ex
  refine wp_append_sl w s x t ho base e i z sz bytes E.ht hi hz hz1 hz2 hz3 E.pos v l.length (l.flatMap g) hs hown A m.length c (m.flatMap g) hx hr (flat_one g hg m) h63 hbytes hbase fun v' w' h1 h2 h3 => ?_
  rw [← List.flatMap_append, ← List.length_append] at h1
  obtain ⟨A', c', rfl, hc1, hc2⟩ := own_form h1
  exact h A' c' w' hc1 hc2 h1 h2 h3
theorem ML.words {B : Nat} {w : World} {Wb Cb T : Nat} {c1 c2 : Value} {tv : Nat → Value} {k1 k2 : List Op5} {th : Nat → List VCall} {av : Nat → List SV} (h : ML B w Wb Cb T c1 c2 tv k1 k2 th av) : Sl w 1 (some ⟨Wb, 0, none⟩) 8 (ints (List.replicate 8 0)) :=
  ⟨rfl, fun _ => ⟨_, rfl, fun j u hu => by rw [ad_at, h.wb.cell j, ← Array.getElem?_toList]; exact hu⟩⟩
end Go.Proofs.YtabmkjokeeakdaaDoor
