/-
  A slice of numbers of the call's own that may begin within its block; append onto it. A machine of one thread that grows beside two lists of numbers: what it is to tell, and what there is. (Merged by merge.py.)
-/
import Derived.Test.YtiinnkdhccgelaaDoorBase
import Derived.ArgAppend
import Derived.Laws.Append
import Derived.Test.YtiinnkdhccgelaaDoorMachN
import Derived.Test.YtiinnkdhccgelaaDoorXTell
import Derived.Test.YtiinnkdhccgelaaDoorDsAt
import Derived.Test.YtiinnkdhccgelaaDoorOWalk
namespace Go.Proofs.YtiinnkdhccgelaaDoor
set_option linter.unusedVariables false

section
open Go.RowKit
structure OwnQ (w : World) (B : Nat) (v : Value) (l : List Int) : Prop where
  ex : (v = .slice none 0 0 ∧ l = []) ∨ ∃ (b off c : Nat) (cur : Array Value), v = .slice (some ⟨b, off, none⟩) l.length c ∧ B ≤ b ∧ Blk w b 3 cur ∧ off + c ≤ cur.size ∧ l.length ≤ c ∧ c ≤ maxLen ∧ ∀ (j : Nat) (x : Int), l[j]? = some x → cur[off + j]? = some (.int .i64 x)
section
variable {w w' : World} {B : Nat} {v : Value} {l : List Int}
theorem OwnQ.nil (w : World) (B : Nat) : OwnQ w B (.slice none 0 0) [] := ⟨.inl ⟨rfl, rfl⟩⟩
theorem OwnQ.form (h : OwnQ w B v l) : ∃ A c, v = .slice A l.length c ∧ l.length ≤ c := by
  rcases h.ex with ⟨rfl, rfl⟩ | ⟨b, off, c, cur, rfl, _, _, _, h1, _⟩
  · exact ⟨_, _, rfl, Nat.le_refl _⟩
  · exact ⟨_, _, rfl, h1⟩
theorem OwnQ.chg {M : Nat → Prop} (h : OwnQ w B v l) (hc : Chg M w w') (hM : ∀ k, v.ownBlock = some k → ¬ M k) : OwnQ w' B v l := by
  rcases h.ex with h0 | ⟨b, off, c, cur, rfl, h1, h2, h3⟩
  · exact ⟨.inl h0⟩
  · exact ⟨.inr ⟨b, off, c, cur, rfl, h1, hc.blk h2 (hM b rfl), h3⟩⟩
theorem OwnQ.below (h : OwnQ w B v l) (hb : Below w.heap.size w w') : OwnQ w' B v l := by
  rcases h.ex with h0 | ⟨b, off, c, cur, rfl, h1, h2, h3⟩
  · exact ⟨.inl h0⟩
  · exact ⟨.inr ⟨b, off, c, cur, rfl, h1, h2.below' hb, h3⟩⟩
theorem OwnQ.ge (h : OwnQ w B v l) : ∀ b, v.ownBlock = some b → B ≤ b ∧ b < w.heap.size := by
  intro b hb
  rcases h.ex with ⟨rfl, _⟩ | ⟨b', off, c, cur, rfl, h1, h2, _⟩
  · cases hb
  · injection hb with hb; simp only at hb; subst hb; exact ⟨h1, h2.lt⟩
theorem OwnQ.ty {t : TypeId} {cs : Array Value} {b : Nat} (h : OwnQ w B v l) (hb : v.ownBlock = some b) (hB : Blk w b t cs) : t = 3 := by
  rcases h.ex with ⟨rfl, _⟩ | ⟨b', off, c, cur, rfl, h1, h2, _⟩
  · cases hb
  · injection hb with hb; simp only at hb; subst hb
    unfold Blk at h2 hB
    rw [h2] at hB; injection hB with hB; injection hB with _ hB; exact hB.symm
theorem OwnQ.cell {b off n c j : Nat} {x : Int} (h : OwnQ w B (.slice (some ⟨b, off, none⟩) n c) l) (hj : l[j]? = some x) : w.cell? ⟨b, off + j, none⟩ = some (.int .i64 x) := by
  rcases h.ex with ⟨e, _⟩ | ⟨b', off', c', cur, e, h1, h2, _, _, _, h3⟩
  · cases e
  · injection e with e1 e2 e3; injection e1 with e1; injection e1 with e1 e4; subst e1 e4
    rw [h2.cell, h3 j x hj]
theorem OwnQ.of_own (h : w.ownsRow B 3 1 v l.length (l.flatMap gI)) : OwnQ w B v l := by
  by_cases hl : 0 < l.length
  · obtain ⟨b, c, cur, rfl, hb, hk, hs, hc, hm, ht⟩ := own_row h hl
    refine ⟨.inr ⟨b, 0, c, cur, rfl, hb, hk, by omega, hc, hm, fun j x hj => ?_⟩⟩
    have hjl := (List.getElem?_eq_some_iff.1 hj).1
    have h1 : (ints l)[j]? = some (.int .i64 x) := ints_at hj
    rw [ints, ← ht, List.getElem?_take, if_pos hjl] at h1
    rw [Nat.zero_add, ← Array.getElem?_toList]; exact h1
  · obtain rfl : l = [] := List.eq_nil_of_length_eq_zero (by omega)
    rcases h.2 with ⟨rfl, _⟩ | ⟨g, cap, cur, hv, hb, hh, h1, h2, h3, h4⟩
    · exact .nil w B
    · exact ⟨.inr ⟨g, 0, cap, cur, hv, hb, hh, by omega, h1, h2, fun j x hj => by simp at hj⟩⟩
theorem OwnQ.cons_form {A : Option Addr} {n c : Nat} {x : Int} (h : OwnQ w B (.slice A n c) (x :: l)) : ∃ b off, A = some ⟨b, off, none⟩ ∧ n = l.length + 1 ∧ n ≤ c := by
  rcases h.ex with ⟨_, e⟩ | ⟨b', off', c', cur, e, h1, h2, h3, h4, h5, h6⟩
  · cases e
  · injection e with e1 e2 e3; subst e1 e2 e3
    exact ⟨b', off', rfl, by simp, h4⟩
/-- what is left behind the first one -/
theorem OwnQ.tail {b off n c : Nat} {x : Int} (h : OwnQ w B (.slice (some ⟨b, off, none⟩) n c) (x :: l)) (hc : 1 < c) : OwnQ w B (.slice (some ⟨b, off + 1, none⟩) l.length (c - 1)) l := by
  rcases h.ex with ⟨e, _⟩ | ⟨b', off', c', cur, e, h1, h2, h3, h4, h5, h6⟩
  · cases e
  · injection e with e1 e2 e3; injection e1 with e1; injection e1 with e1 e4; subst e1 e4 e3
    rw [List.length_cons] at h4
    refine ⟨.inr ⟨b, off + 1, c - 1, cur, rfl, h1, h2, by omega, by omega, by omega, fun j y hj => ?_⟩⟩
    have := h6 (j + 1) y (by rw [List.getElem?_cons_succ]; exact hj)
    rw [show off + 1 + j = off + (j + 1) by omega]; exact this
/-- no room behind the first one -/
theorem OwnQ.tail0 {b off n : Nat} {x : Int} (h : OwnQ w B (.slice (some ⟨b, off, none⟩) n 1) (x :: l)) : OwnQ w B (.slice (some ⟨b, off, none⟩) l.length 0) l ∧ l = [] := by
  rcases h.ex with ⟨e, _⟩ | ⟨b', off', c', cur, e, h1, h2, h3, h4, h5, h6⟩
  · cases e
  · injection e with e1 e2 e3; injection e1 with e1; injection e1 with e1 e4; subst e1 e4 e3
    rw [List.length_cons] at h4
    have hl : l = [] := List.eq_nil_of_length_eq_zero (by omega)
    subst hl
    exact ⟨⟨.inr ⟨b, off, 0, cur, rfl, h1, h2, by omega, Nat.le_refl _, by simp [maxLen], fun j y hj => by simp at hj⟩⟩, rfl⟩
/-- all but the last ones -/
theorem OwnQ.pre {A : Option Addr} {n c : Nat} (h : OwnQ w B (.slice A n c) l) (k : Nat) (hk : k ≤ l.length) : OwnQ w B (.slice A k c) (l.take k) := by
  rcases h.ex with ⟨e, rfl⟩ | ⟨b', off', c', cur, e, h1, h2, h3, h4, h5, h6⟩
  · injection e with e1 e2 e3; subst e1 e2 e3
    obtain rfl : k = 0 := by simpa using hk
    exact .nil w B
  · injection e with e1 e2 e3; subst e1 e2 e3
    refine ⟨.inr ⟨b', off', c, cur, by rw [List.length_take, Nat.min_eq_left hk], h1, h2, h3, by rw [List.length_take]; omega, h5, fun j y hj => h6 j y ?_⟩⟩
    rw [List.getElem?_take] at hj
    split at hj
    · exact hj
    · cases hj
theorem run_append_q (ty : TypeId) (h : OwnQ w B v l) (ad : Addr) (c : Nat) (x : Int) (hx : w.cell? ad = some (.int .i64 x)) (hB : B ≤ w.heap.size) (hl : l.length ≤ 1000) :
    ∃ v' w', (Builtin.append_ #[24, 24] ty #[v, .slice (some ad) 1 c]).run Tryd.prog w = .ok v' w' ∧ OwnQ w' B v' (l ++ [x]) ∧ w.grownBy w' v.ownBlock ∧ (v'.ownBlock = v.ownBlock ∨ v'.ownBlock = some w.heap.size) := by
  obtain ⟨i, z, hi, hz, hz1, hz2, hz3⟩ := elmI.ex
  have ht := elmI.ht
  have hnews : ∀ j u, ([.int .i64 x] : List Value)[j]? = some u → w.cell? (ad.add j) = some u := by
    intro j u hj
    match j, hj with
    | 0, hj => rw [← Option.some.inj (show some (Value.int .i64 x) = some u from hj)]; unfold Addr.add; rw [if_pos rfl]; exact hx
    | j + 1, hj => simp at hj
  have h1 : ∀ u ∈ ([.int .i64 x] : List Value), u.oneCell' = true := fun u hu => by rw [List.mem_singleton.1 hu]; rfl
  have hsl : Sl w 1 (some ad) 1 [.int .i64 x] := ⟨rfl, fun _ => ⟨ad, rfl, hnews⟩⟩
  rcases h.ex with ⟨rfl, rfl⟩ | ⟨b, off, cap, cur, rfl, hb, hk, hs, hc, hm, hcur⟩
  · obtain ⟨v', w', hr, h2, h3, h4⟩ := run_append_sl (P := Tryd.prog) w B 24 ty 3 i z 1 8 ht hi hz hz1 hz2 hz3 (by decide) (.slice none 0 0) 0 [] (World.ownsRow_nil _ _ _ _) (some ad) 1 c [.int .i64 x] hsl h1 (by simp [maxLen]) (by decide) hB
    refine ⟨v', w', hr, OwnQ.of_own (l := [x]) ?_, h3, h4⟩
    simpa using h2
  · by_cases hroom : l.length + 1 ≤ cap
    · have hr := run_append_room_cells (P := Tryd.prog) w 24 ty 3 i ht hi b off l.length cap ad 1 c [.int .i64 x] (by rw [hz1]; rfl) hnews h1 hroom
        (fun j hj => by
          obtain rfl : j = 0 := by simpa using hj
          rw [hz1, hk.cell]
          rw [Array.getElem?_eq_getElem (by omega)]; rfl) (fun j hj => hk.frozen _)
      have e : w.setCells b (off + l.length * i.size) [.int .i64 x] = w.setCell ⟨b, off + l.length, none⟩ (.int .i64 x) := by rw [hz1, Nat.mul_one]; rfl
      rw [e] at hr
      refine ⟨_, _, hr, ⟨.inr ⟨b, off, cap, _, by rw [List.length_append]; rfl, hb, hk.set_ (off + l.length) _, by simpa using hs, by rw [List.length_append]; exact hroom, hm, fun j y hj => ?_⟩⟩, ?_, .inl rfl⟩
      · rw [Array.getElem?_setIfInBounds]
        rw [List.getElem?_append] at hj
        by_cases hjl : j < l.length
        · rw [if_pos hjl] at hj
          rw [if_neg (by omega)]; exact hcur j y hj
        · rw [if_neg hjl, List.getElem?_singleton] at hj
          split at hj
          · rw [← Option.some.inj hj, if_pos (by omega), if_pos (by omega)]
          · cases hj
      · exact ⟨rfl, rfl, rfl, by simp [World.setCell], fun k hk hne => Below.heap_setCell w _ _ k (fun e => hne (by rw [e]; rfl))⟩
    · have hr := run_append_grow (P := Tryd.prog) w 24 ty 3 i z ht hi hz ⟨b, off, none⟩ l.length cap (ints l) (by rw [ints_length, hz1, Nat.mul_one])
        (fun j u hj => by
          obtain ⟨y, hy⟩ : ∃ y, l[j]? = some y := ⟨_, List.getElem?_eq_getElem (by have := (List.getElem?_eq_some_iff.1 hj).1; rw [ints_length] at this; exact this)⟩
          rw [ints_at hy] at hj
          rw [← Option.some.inj hj]
          have e : (⟨b, off, none⟩ : Addr).add j = ⟨b, off + j, none⟩ := by unfold Addr.add; split <;> simp_all
          rw [e, hk.cell, hcur j y hy]) ad 1 c [.int .i64 x] (by rw [hz1]; rfl) hnews (by omega) (by omega)
        (growslice_fits (need := l.length + 1) (old := cap) (by omega) (by rw [hz2]; omega))
      refine ⟨_, _, hr, ⟨.inr ⟨w.heap.size, 0, grownCap w (l.length + 1) cap 3, _, by rw [List.length_append]; rfl, hB, heap_alloc_new w.drew _, ?_, ?_, ?_, fun j y hj => ?_⟩⟩, ⟨rfl, rfl, rfl, by simp, fun k hk' _ => heap_alloc_old w.drew _ hk'⟩, .inr rfl⟩
      · have := grownCap_ge w (l.length + 1) cap 3
        simp only [Array.size_append, List.size_toArray, ints_length, List.length_singleton, size_zeroCells, hz3, Nat.mul_one]
        omega
      · rw [List.length_append]; exact grownCap_ge w (l.length + 1) cap 3
      · exact grownCap_le_maxLen w (l.length + 1) cap 3 (by simp only [maxLen]; omega)
      · rw [Nat.zero_add, ← Array.getElem?_toList]
        have h2 := ints_at hj
        rw [ints_append] at h2
        have h3 := (List.getElem?_eq_some_iff.1 h2).1
        have h4 : ints [x] = [.int .i64 x] := rfl
        rw [h4] at h2 h3
        simp only [Array.toList_append, List.append_assoc]
        rw [← List.append_assoc, List.getElem?_append_left h3]
        exact h2
theorem wp_appQ {o : Oper} {a : Act} {K : Act → World → Prop} {Q : Exit → Act → World → Prop} (s x : Operand) (ho : o.op = .call { callee := .builtin .append, args := #[s, x], argTypes := #[24, 24] })
    (hs : a.eval s = v) (h : OwnQ w B v l) {ad : Addr} {c : Nat} (y : Int) (hx : a.eval x = .slice (some ad) 1 c) (hc : w.cell? ad = some (.int .i64 y)) (hB : B ≤ w.heap.size) (hl : l.length ≤ 1000)
    (hK : ∀ v' w', Hid (OwnQ w' B v' (l ++ [y])) → Hid (w.grownBy w' v.ownBlock) → Hid (v'.ownBlock = v.ownBlock ∨ v'.ownBlock = some w.heap.size) → K (a.put o.dst v') w') : o.wp Tryd.prog a w K Q := by
  obtain ⟨v', w', hrun, h2, h3, h4⟩ := run_append_q o.type h ad c y hc hB hl
  unfold Oper.wp execOp
  simp only [ho, resolve, invoke, builtin, Sem.run_bind, Sem.run_pure, Result.andThen_ok, List.map_toArray, List.map_cons, List.map_nil, hs, hx, hrun]
  exact hK v' w' h2 h3 h4
theorem wpList_appQ {ops : Array Oper} {rest : List Oper} {o : Oper} {a : Act} {Q : Exit → Act → World → Prop} (hw : Region.wanted o (yielded ops a.tmps) = true) (s x : Operand) (ho : o.op = .call { callee := .builtin .append, args := #[s, x], argTypes := #[24, 24] })
    (hs : a.eval s = v) (h : OwnQ w B v l) {ad : Addr} {c : Nat} (y : Int) (hx : a.eval x = .slice (some ad) 1 c) (hc : w.cell? ad = some (.int .i64 y)) (hB : B ≤ w.heap.size) (hl : l.length ≤ 1000)
    (hK : ∀ v' w', Hid (OwnQ w' B v' (l ++ [y])) → Hid (w.grownBy w' v.ownBlock) → Hid (v'.ownBlock = v.ownBlock ∨ v'.ownBlock = some w.heap.size) → wpList Tryd.prog ops Q rest (a.put o.dst v') w') : wpList Tryd.prog ops Q (o :: rest) a w :=
  BigFrame.wpList_want hw fun _ hK' => wp_appQ s x ho hs h y hx hc hB hl fun v' w' h2 h3 h4 => hK' _ _ (hK v' w' h2 h3 h4)
end
end

section
open Go.RowKit
theorem wpList_appC {P : Program} {w : World} {t e : TypeId} {sz bytes : Nat} (E : Elm P t e sz bytes) {α : Type} {g : α → List Value} (hg : ∀ x, ∀ u ∈ g x, u.oneCell' = true) {ops : Array Oper} {rest : List Oper} {o : Oper} {a : Act} {Q : Exit → Act → World → Prop} (hw : Region.wanted o (yielded ops a.tmps) = true) (s x : Operand)
    (ho : o.op = .call { callee := .builtin .append, args := #[s, x], argTypes := #[t, t] })
    {base : Nat} (v : Value) (l : List α) (hs : a.eval s = v) (hown : w.ownsRow base e sz v l.length (l.flatMap g))
    {A : Option Addr} {n c : Nat} (m y : List α) (hy : Hid (l ++ m = y)) (hx : a.eval x = .slice A n c) (hr : Sl w sz A n (m.flatMap g)) (hn : m.length = n)
    (h63 : y.length ≤ maxLen) (hbytes : y.length * bytes ≤ 140737488355328) (hbase : base ≤ w.heap.size)
    (h : ∀ A' c' w', y.length ≤ c' → c' ≤ maxLen → Hid (w'.ownsRow base e sz (.slice A' y.length c') y.length (y.flatMap g)) → Hid (w.grownBy w' v.ownBlock) → Hid ((Value.slice A' y.length c').ownBlock = v.ownBlock ∨ (Value.slice A' y.length c').ownBlock = some w.heap.size) → wpList P ops Q rest (a.put o.dst (.slice A' y.length c')) w') : wpList P ops Q (o :: rest) a w := by
  have hy' : l ++ m = y := hy
  subst hy'
  rw [List.length_append] at h63 hbytes
  subst hn
  refine wpList_app E hw s x ho v hs hown hx hr (flat_one g hg m) h63 hbytes hbase fun v' w' h1 h2 h3 => ?_
  rw [← List.flatMap_append, ← List.length_append] at h1
  obtain ⟨A', c', rfl, hc1, hc2⟩ := own_form h1
  exact h A' c' w' hc1 hc2 h1 h2 h3
theorem zerosT (N : Nat) (w : World) (b : Nat) (h : w.heap.size = b) : Sl (w.alloc (.cells (madeCells #[Value.int .i64 0] N) 3)) 1 (some ⟨b, 0, none⟩) N (ints ((List.replicate N 0).map fun x : Nat => (x : Int))) := by
  have e : (madeCells #[Value.int .i64 0] N).toList = ints ((List.replicate N 0).map fun x : Nat => (x : Int)) := by
    rw [Go.toList_madeCells_one, List.map_replicate]
    unfold ints
    refine List.ext_getElem? fun j => ?_
    by_cases h : j < N
    · have h1 := flatMap_at gI 1 (fun _ => rfl) (List.replicate N ((0 : Nat) : Int)) j 0 ((0 : Nat) : Int) (by rw [List.getElem?_replicate, if_pos h]) (by decide)
      rw [Nat.mul_one, Nat.add_zero] at h1
      rw [h1, List.getElem?_replicate, if_pos h]; rfl
    · rw [List.getElem?_eq_none (by simp; omega), List.getElem?_eq_none (by rw [flatMap_len gI 1 (fun _ => rfl)]; simp; omega)]
  have h1 := (blkN w 3 (madeCells #[Value.int .i64 0] N) b h).sl 1 N (by rw [← Array.length_toList, e, ints_length]; simp)
  rw [e] at h1
  exact h1
/-- other numbers change: the machine stays -/
theorem MN.intsQ {B : Nat} {w w' : World} {nc nt : Nat} {Cb T : Nat} {cv : Nat → Value} {ks : Nat → List Op5} {tv : Nat → Value} {th : Nat → List VCall} {av : Nat → List SV} (h : MN B w nc nt Cb T cv ks tv th av) {v : Value} (hv : ∀ (t : TypeId) (cs : Array Value) (b : Nat), v.ownBlock = some b → Blk w b t cs → t = 3) (hc : Chg (fun k => v.ownBlock = some k) w w') (ha : ∀ j, j < nt → ∀ a ∈ av j, Apt a.v v) : MN B w' nc nt Cb T cv ks tv th av := by
  have bk : ∀ {g t : Nat} {cs : Array Value}, t ≠ 3 → Blk w g t cs → Blk w' g t cs := fun h1 h2 => hc.blk h2 fun hm => h1 (hv _ _ _ hm h2)
  have ok : ∀ {e sz : Nat} {u : Value} {n : Nat} {xs : List Value}, e ≠ 3 → w.ownsRow B e sz u n xs → w'.ownsRow B e sz u n xs := fun {e sz u n xs} h1 h2 => own_chg h2 hc fun k hk hm => by
    rcases h2.2 with ⟨rfl, _⟩ | ⟨g, cap, cur, rfl, _, hh, _⟩
    · cases hk
    · injection hk with hk; simp only at hk; subst hk
      exact h1 (hv _ _ _ hm hh)
  refine ⟨h.geC, h.geT, bk (by decide) h.cb, bk (by decide) h.tb, fun i hi => ok (by decide) (h.os i hi), fun j hj => ?_, h.dist⟩
  obtain ⟨r1, r2, r3⟩ := h.rows j hj
  exact ⟨r1, ok (by decide) r2, fun k c a hk hak => own_chg (r3 k c a hk hak) hc fun b hb hm => ha j hj a (List.mem_of_getElem? hak) b hb hm⟩
def oneTh (l : List VCall) (j : Nat) : List VCall := if j = 0 then l else []
theorem oneTh_upd (l m : List VCall) : upd (oneTh l) 0 (oneTh l 0 ++ m) = oneTh (l ++ m) := by
  funext j
  unfold upd oneTh
  by_cases h : j = 0
  · subst h; simp
  · simp [h]
structure TX (W0 w : World) (X Cb T : Nat) (AW : Option Addr) (NW cW : Nat) (WS : List Int) (k1 k2 : List Op5) (cv tv : Nat → Value) (av : Nat → List SV) (calls : List VCall) (wv : Value) (ws : List Int) (hv : Value) (hs : List Int) : Prop where
  hx : Blk w X 34 #[.slice AW NW cW, .slice (some ⟨Cb, 0, none⟩) 2 2, .slice (some ⟨T, 0, none⟩) 1 1]
  hw : w.ownsRow W0.heap.size 3 1 (.slice AW NW cW) NW (WS.flatMap gI)
  mn : MN W0.heap.size w 2 1 Cb T cv (fun i => [k1, k2].getD i []) tv (oneTh calls) av
  want : w.ownsRow W0.heap.size 3 1 wv ws.length (ws.flatMap gI)
  has : OwnQ w W0.heap.size hv hs
  aw : Apt (.slice AW NW cW) wv
  ah : Apt (.slice AW NW cW) hv
  wh : Apt wv hv
  aa : ∀ a ∈ av 0, Apt a.v wv
  aq : ∀ a ∈ av 0, Apt a.v hv
  below : Below W0.heap.size W0 w
section
variable {W0 w : World} {X Cb T : Nat} {AW : Option Addr} {NW cW : Nat} {WS : List Int} {k1 k2 : List Op5} {cv tv : Nat → Value} {av : Nat → List SV} {calls : List VCall} {wv : Value} {ws : List Int} {hv : Value} {hs : List Int}
theorem TX.below' {w' : World} (h : TX W0 w X Cb T AW NW cW WS k1 k2 cv tv av calls wv ws hv hs) (hb : Below w.heap.size w w') : TX W0 w' X Cb T AW NW cW WS k1 k2 cv tv av calls wv ws hv hs :=
  ⟨h.hx.below' hb, own_below h.hw hb, h.mn.below hb, own_below h.want hb, h.has.below hb, h.aw, h.ah, h.wh, h.aa, h.aq, bgo h.below hb⟩
theorem TX.avlt (h : TX W0 w X Cb T AW NW cW WS k1 k2 cv tv av calls wv ws hv hs) {a : SV} (ha : a ∈ av 0) : ∀ b, a.v.ownBlock = some b → b < w.heap.size := fun b hb => by
  obtain ⟨r1, r2, r3⟩ := h.mn.rows 0 (by decide)
  obtain ⟨i, hi⟩ := List.getElem?_of_mem ha
  have hi2 : i < (oneTh calls 0).length := by rw [← r1]; exact (List.getElem?_eq_some_iff.1 hi).1
  exact (own_ge (r3 i _ a (List.getElem?_eq_getElem hi2) hi) b hb).2
theorem apt_new {u v v' : Value} {n : Nat} (h1 : ∀ b, u.ownBlock = some b → b < n) (h2 : Apt u v) (hv : v'.ownBlock = v.ownBlock ∨ v'.ownBlock = some n) : Apt u v' := by
  intro b hb hb'
  rcases hv with e | e
  · rw [e] at hb'; exact h2 b hb hb'
  · rw [e] at hb'; injection hb' with hb'; have := h1 b hb; omega
/-- a number more that is to be told -/
theorem TX.app {wA w6 : World} (h : TX W0 w X Cb T AW NW cW WS k1 k2 cv tv av calls wv ws hv hs) (hb : Below w.heap.size w wA) (hG : wA.grownBy w6 wv.ownBlock) {v' : Value} {ws' : List Int} (hr : w6.ownsRow W0.heap.size 3 1 v' ws'.length (ws'.flatMap gI)) (hv' : v'.ownBlock = wv.ownBlock ∨ v'.ownBlock = some wA.heap.size) : TX W0 w6 X Cb T AW NW cW WS k1 k2 cv tv av calls v' ws' hv hs := by
  have hA := h.below' hb
  have hM := Chg.of_grown hG (M := fun k => wv.ownBlock = some k) (fun k e => e)
  refine ⟨hM.blk hA.hx (own_ne_blk hA.want hA.hx (by decide)), own_chg hA.hw hM (fun k hk hm => hA.aw k hk hm), hA.mn.intsQ (fun t cs b hb hB => by
      rcases hA.want.2 with ⟨rfl, _⟩ | ⟨g, cap, cur, rfl, _, hh, _⟩
      · cases hb
      · injection hb with hb; simp only at hb; subst hb
        unfold Blk at hB; rw [hh] at hB; injection hB with hB; injection hB with _ hB; exact hB.symm) hM (fun j hj => by obtain rfl : j = 0 := (by omega); exact hA.aa), hr, hA.has.chg hM (fun k hk hm => hA.wh k hm hk), apt_new (fun b hb => (own_ge hA.hw b hb).2) hA.aw hv', hA.ah, ?_, fun a ha => apt_new (hA.avlt ha) (hA.aa a ha) hv', hA.aq, ?_⟩
  · exact (apt_new (fun b hb => (hA.has.ge b hb).2) hA.wh.symm hv').symm
  · exact hA.below.grown hG hA.below.size (fun b hb => (own_ge hA.want b hb).1)
/-- a number more that there is -/
theorem TX.apph {wA w6 : World} (h : TX W0 w X Cb T AW NW cW WS k1 k2 cv tv av calls wv ws hv hs) (hb : Below w.heap.size w wA) (hG : wA.grownBy w6 hv.ownBlock) {v' : Value} {hs' : List Int} (hr : OwnQ w6 W0.heap.size v' hs') (hv' : v'.ownBlock = hv.ownBlock ∨ v'.ownBlock = some wA.heap.size) : TX W0 w6 X Cb T AW NW cW WS k1 k2 cv tv av calls wv ws v' hs' := by
  have hA := h.below' hb
  have hM := Chg.of_grown hG (M := fun k => hv.ownBlock = some k) (fun k e => e)
  have ty : ∀ (t : TypeId) (cs : Array Value) (b : Nat), hv.ownBlock = some b → Blk wA b t cs → t = 3 := fun t cs b h1 h2 => hA.has.ty h1 h2
  refine ⟨hM.blk hA.hx (fun hm => absurd (ty _ _ _ hm hA.hx) (by decide)), own_chg hA.hw hM (fun k hk hm => hA.ah k hk hm), hA.mn.intsQ ty hM (fun j hj => by obtain rfl : j = 0 := (by omega); exact hA.aq), own_chg hA.want hM (fun k hk hm => hA.wh k hk hm), hr, hA.aw, apt_new (fun b hb => (own_ge hA.hw b hb).2) hA.ah hv', apt_new (fun b hb => (own_ge hA.want b hb).2) hA.wh hv', hA.aa, fun a ha => apt_new (hA.avlt ha) (hA.aq a ha) hv', ?_⟩
  exact hA.below.grown hG hA.below.size (fun b hb => (hA.has.ge b hb).1)
/-- less there is -/
theorem TX.hset (h : TX W0 w X Cb T AW NW cW WS k1 k2 cv tv av calls wv ws hv hs) {v' : Value} {hs' : List Int} (hr : OwnQ w W0.heap.size v' hs') (hv' : v'.ownBlock = hv.ownBlock) : TX W0 w X Cb T AW NW cW WS k1 k2 cv tv av calls wv ws v' hs' :=
  ⟨h.hx, h.hw, h.mn, h.want, hr, h.aw, fun b h1 h2 => h.ah b h1 (by rw [← hv']; exact h2), fun b h1 h2 => h.wh b h1 (by rw [← hv']; exact h2), h.aa, fun a ha b h1 h2 => h.aq a ha b h1 (by rw [← hv']; exact h2), h.below⟩
/-- a call more -/
theorem TX.push {wA w6 : World} (h : TX W0 w X Cb T AW NW cW WS k1 k2 cv tv av calls wv ws hv hs) (hb : Below w.heap.size w wA) {c : VCall} {a : SV} (hbA : ∀ b, a.v.ownBlock = some b → w.heap.size ≤ b) (ha : wA.ownsRow W0.heap.size 3 1 a.v c.args.length (c.args.flatMap gI)) {y : List (VCall × SV)}
    (hy : (oneTh calls 0).zip (av 0) ++ [(c, a)] = y)
    (hG : wA.grownBy w6 (tv 0).ownBlock) {v' : Value} (hv' : v'.ownBlock = (tv 0).ownBlock ∨ v'.ownBlock = some wA.heap.size) (hr : w6.ownsRow W0.heap.size 53 2 v' y.length (y.flatMap gS)) :
    TX W0 (w6.setCell ⟨T, 0, none⟩ v') X Cb T AW NW cW WS k1 k2 cv (upd tv 0 v') (upd av 0 (av 0 ++ [a])) (calls ++ [c]) wv ws hv hs := by
  obtain ⟨g1, g2⟩ := h.mn.grown (by decide : 0 < 1) hb hG
  have hA := h.below' hb
  have hrow := (hA.mn.rows 0 (by decide)).2.1
  have hM := Chg.of_grown hG (M := fun k => (tv 0).ownBlock = some k) (fun k e => e)
  have hq6 : OwnQ w6 W0.heap.size hv hs := hA.has.chg hM fun k hk hm => by
    rcases hrow.2 with ⟨e, _⟩ | ⟨g, cap, cur, e, _, hh, _⟩
    · rw [e] at hm; cases hm
    · rw [e] at hm; injection hm with hm; simp only at hm; subst hm
      exact absurd (hA.has.ty hk hh) (by decide)
  have hq7 : OwnQ (w6.setCell ⟨T, 0, none⟩ v') W0.heap.size hv hs := hq6.chg ((Chg.refl (fun k => k = T) w6).setCell (p := ⟨T, 0, none⟩) (fun _ => rfl) _) fun k hk hm => by
    subst hm
    exact absurd (hq6.ty hk g1) (by decide)
  refine ⟨(g2 (by decide) h.hx).far (p := ⟨T, 0, none⟩) ((g2 (by decide) h.hx).ne_ g1 (by decide)) v', h.mn.other (by decide) hb hG h.hw (by decide) (by decide) v', ?_, h.mn.other (by decide) hb hG h.want (by decide) (by decide) v', hq7, h.aw, h.ah, h.wh, fun x hx => ?_, fun x hx => ?_, (h.mn.chg (by decide) hb hG h.below rfl v').2⟩
  · have h1 := h.mn.snoc (by decide : 0 < 1) [c] [a] hb rfl (fun i c' a' hc hai => by
      match i, hc, hai with
      | 0, hc, hai => injection hc with hc; injection hai with hai; subst hc hai; exact ha
      | i + 1, hc, hai => simp at hc) hy hG hv' hr
    rw [oneTh_upd] at h1
    exact h1
  · rw [upd_same] at hx
    rcases List.mem_append.1 hx with h1 | h1
    · exact h.aa x h1
    · rw [List.mem_singleton.1 h1]
      intro b hb1 hb2
      have := (own_ge h.want b hb2).2
      have := hbA b hb1
      omega
  · rw [upd_same] at hx
    rcases List.mem_append.1 hx with h1 | h1
    · exact h.aq x h1
    · rw [List.mem_singleton.1 h1]
      intro b hb1 hb2
      have := (h.has.ge b hb2).2
      have := hbA b hb1
      omega
end
/-- the machine, as run.Play sees it -/
theorem x_mach {w : World} {B Cb T : Nat} {cv tv : Nat → Value} {av : Nat → List SV} {WS : List Int} {k1 k2 : List Op5} {f : Nat → Int} {kinds : List Bool} (h : MN B w 2 1 Cb T cv (fun i => [k1, k2].getD i []) tv (oneTh (xcalls f kinds 20)) av)
    (l1 : k1.length ≤ 200) (l2 : k2.length ≤ 200) (s1 : ∀ o ∈ k1, OpSh k1.length o) (s2 : ∀ o ∈ k2, OpSh k2.length o) : MachAt w (some ⟨Cb, 0, none⟩) 2 (some ⟨T, 0, none⟩) 1 (xmach WS k1 k2 f kinds 20) := by
  refine h.at_ rfl rfl (fun i hi => ?_) (fun j hj => ?_)
  · rcases (show i = 0 ∨ i = 1 by omega) with rfl | rfl
    · exact ⟨l1, s1⟩
    · exact ⟨l2, s2⟩
  · obtain rfl : j = 0 := by omega
    refine ⟨by show (xcalls f kinds 20).length ≤ 20; rw [xcalls_len]; decide, fun c hc => ?_⟩
    have hc : c ∈ xcalls f kinds 20 := hc
    unfold xcalls at hc
    obtain ⟨i, _, rfl⟩ := List.mem_map.1 hc
    unfold xcall
    split <;> simp
end
end Go.Proofs.YtiinnkdhccgelaaDoor
