/-
  A slice of numbers of the call's own that may begin within its block; append onto it.
-/
import Derived.Test.YtiinnkdhccgelaaDoorBase
import Derived.ArgAppend
import Derived.Laws.Append
namespace Go.Proofs.YtiinnkdhccgelaaDoor
open Go.RowKit
set_option linter.unusedVariables false

structure OwnQ (w : World) (B : Nat) (v : Value) (l : List Int) : Prop where
  ex : (v = .slice none 0 0 ∧ l = []) ∨ ∃ (b off c : Nat) (cur : Array Value), v = .slice (some ⟨b, off, none⟩) l.length c ∧ B ≤ b ∧ Blk w b 3 cur ∧ off + c ≤ cur.size ∧ l.length ≤ c ∧ c ≤ maxLen ∧ ∀ (j : Nat) (x : Int), l[j]? = some x → cur[off + j]? = some (.int .i64 x)
section
variable {w w' : World} {B : Nat} {v : Value} {l : List Int}
theorem OwnQ.nil (w : World) (B : Nat) : OwnQ w B (.slice none 0 0) [] := ⟨.inl ⟨rfl, rfl⟩⟩
theorem OwnQ.form (h : OwnQ w B v l) : ∃ A c, v = .slice A l.length c ∧ l.length ≤ c := by
  rcases h.ex with ⟨rfl, rfl⟩ | ⟨b, off, c, cur, rfl, _, _, _, h1, _⟩
  · exact ⟨_, _, rfl, Nat.le_refl _⟩
  · exact ⟨_, _, rfl, h1⟩
theorem OwnQ.chg {M : Nat → Prop} (h : OwnQ w B v l) (hc : Chg M w w') (hM : ∀ k, v.ownBlock = some k → ¬ M k) : OwnQ w' B v l := by
  rcases h.ex with h0 | ⟨b, off, c, cur, rfl, h1, h2, h3⟩
  · exact ⟨.inl h0⟩
  · exact ⟨.inr ⟨b, off, c, cur, rfl, h1, hc.blk h2 (hM b rfl), h3⟩⟩
theorem OwnQ.below (h : OwnQ w B v l) (hb : Below w.heap.size w w') : OwnQ w' B v l := by
  rcases h.ex with h0 | ⟨b, off, c, cur, rfl, h1, h2, h3⟩
  · exact ⟨.inl h0⟩
  · exact ⟨.inr ⟨b, off, c, cur, rfl, h1, h2.below' hb, h3⟩⟩
theorem OwnQ.ge (h : OwnQ w B v l) : ∀ b, v.ownBlock = some b → B ≤ b ∧ b < w.heap.size := by
  intro b hb
  rcases h.ex with ⟨rfl, _⟩ | ⟨b', off, c, cur, rfl, h1, h2, _⟩
  · cases hb
  · injection hb with hb; simp only at hb; subst hb; exact ⟨h1, h2.lt⟩
theorem OwnQ.ty {t : TypeId} {cs : Array Value} {b : Nat} (h : OwnQ w B v l) (hb : v.ownBlock = some b) (hB : Blk w b t cs) : t = 3 := by
  rcases h.ex with ⟨rfl, _⟩ | ⟨b', off, c, cur, rfl, h1, h2, _⟩
  · cases hb
  · injection hb with hb; simp only at hb; subst hb
    unfold Blk at h2 hB
    rw [h2] at hB; injection hB with hB; injection hB with _ hB; exact hB.symm
theorem OwnQ.cell {b off n c j : Nat} {x : Int} (h : OwnQ w B (.slice (some ⟨b, off, none⟩) n c) l) (hj : l[j]? = some x) : w.cell? ⟨b, off + j, none⟩ = some (.int .i64 x) := by
  rcases h.ex with ⟨e, _⟩ | ⟨b', off', c', cur, e, h1, h2, _, _, _, h3⟩
  · cases e
  · injection e with e1 e2 e3; injection e1 with e1; injection e1 with e1 e4; subst e1 e4
    rw [h2.cell, h3 j x hj]
theorem OwnQ.of_own (h : w.ownsRow B 3 1 v l.length (l.flatMap gI)) : OwnQ w B v l := by
  by_cases hl : 0 < l.length
  · obtain ⟨b, c, cur, rfl, hb, hk, hs, hc, hm, ht⟩ := own_row h hl
    refine ⟨.inr ⟨b, 0, c, cur, rfl, hb, hk, by omega, hc, hm, fun j x hj => ?_⟩⟩
    have hjl := (List.getElem?_eq_some_iff.1 hj).1
    have h1 : (ints l)[j]? = some (.int .i64 x) := ints_at hj
    rw [ints, ← ht, List.getElem?_take, if_pos hjl] at h1
    rw [Nat.zero_add, ← Array.getElem?_toList]; exact h1
  · obtain rfl : l = [] := List.eq_nil_of_length_eq_zero (by omega)
    rcases h.2 with ⟨rfl, _⟩ | ⟨g, cap, cur, hv, hb, hh, h1, h2, h3, h4⟩
    · exact .nil w B
    · exact ⟨.inr ⟨g, 0, cap, cur, hv, hb, hh, by omega, h1, h2, fun j x hj => by simp at hj⟩⟩
theorem OwnQ.cons_form {A : Option Addr} {n c : Nat} {x : Int} (h : OwnQ w B (.slice A n c) (x :: l)) : ∃ b off, A = some ⟨b, off, none⟩ ∧ n = l.length + 1 ∧ n ≤ c := by
  rcases h.ex with ⟨_, e⟩ | ⟨b', off', c', cur, e, h1, h2, h3, h4, h5, h6⟩
  · cases e
  · injection e with e1 e2 e3; subst e1 e2 e3
    exact ⟨b', off', rfl, by simp, h4⟩
/-- what is left behind the first one -/
theorem OwnQ.tail {b off n c : Nat} {x : Int} (h : OwnQ w B (.slice (some ⟨b, off, none⟩) n c) (x :: l)) (hc : 1 < c) : OwnQ w B (.slice (some ⟨b, off + 1, none⟩) l.length (c - 1)) l := by
  rcases h.ex with ⟨e, _⟩ | ⟨b', off', c', cur, e, h1, h2, h3, h4, h5, h6⟩
  · cases e
  · injection e with e1 e2 e3; injection e1 with e1; injection e1 with e1 e4; subst e1 e4 e3
    rw [List.length_cons] at h4
    refine ⟨.inr ⟨b, off + 1, c - 1, cur, rfl, h1, h2, by omega, by omega, by omega, fun j y hj => ?_⟩⟩
    have := h6 (j + 1) y (by rw [List.getElem?_cons_succ]; exact hj)
    rw [show off + 1 + j = off + (j + 1) by omega]; exact this
/-- no room behind the first one -/
theorem OwnQ.tail0 {b off n : Nat} {x : Int} (h : OwnQ w B (.slice (some ⟨b, off, none⟩) n 1) (x :: l)) : OwnQ w B (.slice (some ⟨b, off, none⟩) l.length 0) l ∧ l = [] := by
  rcases h.ex with ⟨e, _⟩ | ⟨b', off', c', cur, e, h1, h2, h3, h4, h5, h6⟩
  · cases e
  · injection e with e1 e2 e3; injection e1 with e1; injection e1 with e1 e4; subst e1 e4 e3
    rw [List.length_cons] at h4
    have hl : l = [] := List.eq_nil_of_length_eq_zero (by omega)
    subst hl
    exact ⟨⟨.inr ⟨b, off, 0, cur, rfl, h1, h2, by omega, Nat.le_refl _, by simp [maxLen], fun j y hj => by simp at hj⟩⟩, rfl⟩
/-- all but the last ones -/
theorem OwnQ.pre {A : Option Addr} {n c : Nat} (h : OwnQ w B (.slice A n c) l) (k : Nat) (hk : k ≤ l.length) : OwnQ w B (.slice A k c) (l.take k) := by
  rcases h.ex with ⟨e, rfl⟩ | ⟨b', off', c', cur, e, h1, h2, h3, h4, h5, h6⟩
  · injection e with e1 e2 e3; subst e1 e2 e3
    obtain rfl : k = 0 := by simpa using hk
    exact .nil w B
  · injection e with e1 e2 e3; subst e1 e2 e3
    refine ⟨.inr ⟨b', off', c, cur, by rw [List.length_take, Nat.min_eq_left hk], h1, h2, h3, by rw [List.length_take]; omega, h5, fun j y hj => h6 j y ?_⟩⟩
    rw [List.getElem?_take] at hj
    split at hj
    · exact hj
    · cases hj
theorem run_append_q (ty : TypeId) (h : OwnQ w B v l) (ad : Addr) (c : Nat) (x : Int) (hx : w.cell? ad = some (.int .i64 x)) (hB : B ≤ w.heap.size) (hl : l.length ≤ 1000) :
    ∃ v' w', (Builtin.append_ #[24, 24] ty #[v, .slice (some ad) 1 c]).run Tryd.prog w = .ok v' w' ∧ OwnQ w' B v' (l ++ [x]) ∧ w.grownBy w' v.ownBlock ∧ (v'.ownBlock = v.ownBlock ∨ v'.ownBlock = some w.heap.size) := by
  obtain ⟨i, z, hi, hz, hz1, hz2, hz3⟩ := elmI.ex
  have ht := elmI.ht
  have hnews : ∀ j u, ([.int .i64 x] : List Value)[j]? = some u → w.cell? (ad.add j) = some u := by
    intro j u hj
    match j, hj with
    | 0, hj => rw [← Option.some.inj (show some (Value.int .i64 x) = some u from hj)]; unfold Addr.add; rw [if_pos rfl]; exact hx
    | j + 1, hj => simp at hj
  have h1 : ∀ u ∈ ([.int .i64 x] : List Value), u.oneCell' = true := fun u hu => by rw [List.mem_singleton.1 hu]; rfl
  have hsl : Sl w 1 (some ad) 1 [.int .i64 x] := ⟨rfl, fun _ => ⟨ad, rfl, hnews⟩⟩
  rcases h.ex with ⟨rfl, rfl⟩ | ⟨b, off, cap, cur, rfl, hb, hk, hs, hc, hm, hcur⟩
  · obtain ⟨v', w', hr, h2, h3, h4⟩ := run_append_sl (P := Tryd.prog) w B 24 ty 3 i z 1 8 ht hi hz hz1 hz2 hz3 (by decide) (.slice none 0 0) 0 [] (World.ownsRow_nil _ _ _ _) (some ad) 1 c [.int .i64 x] hsl h1 (by simp [maxLen]) (by decide) hB
    refine ⟨v', w', hr, OwnQ.of_own (l := [x]) ?_, h3, h4⟩
    simpa using h2
  · by_cases hroom : l.length + 1 ≤ cap
    · have hr := run_append_room_cells (P := Tryd.prog) w 24 ty 3 i ht hi b off l.length cap ad 1 c [.int .i64 x] (by rw [hz1]; rfl) hnews h1 hroom
        (fun j hj => by
          obtain rfl : j = 0 := by simpa using hj
          rw [hz1, hk.cell]
          rw [Array.getElem?_eq_getElem (by omega)]; rfl) (fun j hj => hk.frozen _)
      have e : w.setCells b (off + l.length * i.size) [.int .i64 x] = w.setCell ⟨b, off + l.length, none⟩ (.int .i64 x) := by rw [hz1, Nat.mul_one]; rfl
      rw [e] at hr
      refine ⟨_, _, hr, ⟨.inr ⟨b, off, cap, _, by rw [List.length_append]; rfl, hb, hk.set_ (off + l.length) _, by simpa using hs, by rw [List.length_append]; exact hroom, hm, fun j y hj => ?_⟩⟩, ?_, .inl rfl⟩
      · rw [Array.getElem?_setIfInBounds]
        rw [List.getElem?_append] at hj
        by_cases hjl : j < l.length
        · rw [if_pos hjl] at hj
          rw [if_neg (by omega)]; exact hcur j y hj
        · rw [if_neg hjl, List.getElem?_singleton] at hj
          split at hj
          · rw [← Option.some.inj hj, if_pos (by omega), if_pos (by omega)]
          · cases hj
      · exact ⟨rfl, rfl, rfl, by simp [World.setCell], fun k hk hne => Below.heap_setCell w _ _ k (fun e => hne (by rw [e]; rfl))⟩
    · have hr := run_append_grow (P := Tryd.prog) w 24 ty 3 i z ht hi hz ⟨b, off, none⟩ l.length cap (ints l) (by rw [ints_length, hz1, Nat.mul_one])
        (fun j u hj => by
          obtain ⟨y, hy⟩ : ∃ y, l[j]? = some y := ⟨_, List.getElem?_eq_getElem (by have := (List.getElem?_eq_some_iff.1 hj).1; rw [ints_length] at this; exact this)⟩
          rw [ints_at hy] at hj
          rw [← Option.some.inj hj]
          have e : (⟨b, off, none⟩ : Addr).add j = ⟨b, off + j, none⟩ := by unfold Addr.add; split <;> simp_all
          rw [e, hk.cell, hcur j y hy]) ad 1 c [.int .i64 x] (by rw [hz1]; rfl) hnews (by omega) (by omega)
        (growslice_fits (need := l.length + 1) (old := cap) (by omega) (by rw [hz2]; omega))
      refine ⟨_, _, hr, ⟨.inr ⟨w.heap.size, 0, grownCap w (l.length + 1) cap 3, _, by rw [List.length_append]; rfl, hB, heap_alloc_new w.drew _, ?_, ?_, ?_, fun j y hj => ?_⟩⟩, ⟨rfl, rfl, rfl, by simp, fun k hk' _ => heap_alloc_old w.drew _ hk'⟩, .inr rfl⟩
      · have := grownCap_ge w (l.length + 1) cap 3
        simp only [Array.size_append, List.size_toArray, ints_length, List.length_singleton, size_zeroCells, hz3, Nat.mul_one]
        omega
      · rw [List.length_append]; exact grownCap_ge w (l.length + 1) cap 3
      · exact grownCap_le_maxLen w (l.length + 1) cap 3 (by simp only [maxLen]; omega)
      · rw [Nat.zero_add, ← Array.getElem?_toList]
        have h2 := ints_at hj
        rw [ints_append] at h2
        have h3 := (List.getElem?_eq_some_iff.1 h2).1
        have h4 : ints [x] = [.int .i64 x] := rfl
        rw [h4] at h2 h3
        simp only [Array.toList_append, List.append_assoc]
        rw [← List.append_assoc, List.getElem?_append_left h3]
        exact h2
theorem wp_appQ {o : Oper} {a : Act} {K : Act → World → Prop} {Q : Exit → Act → World → Prop} (s x : Operand) (ho : o.op = .call { callee := .builtin .append, args := #[s, x], argTypes := #[24, 24] })
    (hs : a.eval s = v) (h : OwnQ w B v l) {ad : Addr} {c : Nat} (y : Int) (hx : a.eval x = .slice (some ad) 1 c) (hc : w.cell? ad = some (.int .i64 y)) (hB : B ≤ w.heap.size) (hl : l.length ≤ 1000)
    (hK : ∀ v' w', Hid (OwnQ w' B v' (l ++ [y])) → Hid (w.grownBy w' v.ownBlock) → Hid (v'.ownBlock = v.ownBlock ∨ v'.ownBlock = some w.heap.size) → K (a.put o.dst v') w') : o.wp Tryd.prog a w K Q := by
  obtain ⟨v', w', hrun, h2, h3, h4⟩ := run_append_q o.type h ad c y hc hB hl
  unfold Oper.wp execOp
  simp only [ho, resolve, invoke, builtin, Sem.run_bind, Sem.run_pure, Result.andThen_ok, List.map_toArray, List.map_cons, List.map_nil, hs, hx, hrun]
  exact hK v' w' h2 h3 h4
theorem wpList_appQ {ops : Array Oper} {rest : List Oper} {o : Oper} {a : Act} {Q : Exit → Act → World → Prop} (hw : Region.wanted o (yielded ops a.tmps) = true) (s x : Operand) (ho : o.op = .call { callee := .builtin .append, args := #[s, x], argTypes := #[24, 24] })
    (hs : a.eval s = v) (h : OwnQ w B v l) {ad : Addr} {c : Nat} (y : Int) (hx : a.eval x = .slice (some ad) 1 c) (hc : w.cell? ad = some (.int .i64 y)) (hB : B ≤ w.heap.size) (hl : l.length ≤ 1000)
    (hK : ∀ v' w', Hid (OwnQ w' B v' (l ++ [y])) → Hid (w.grownBy w' v.ownBlock) → Hid (v'.ownBlock = v.ownBlock ∨ v'.ownBlock = some w.heap.size) → wpList Tryd.prog ops Q rest (a.put o.dst v') w') : wpList Tryd.prog ops Q (o :: rest) a w :=
  BigFrame.wpList_want hw fun _ hK' => wp_appQ s x ho hs h y hx hc hB hl fun v' w' h2 h3 h4 => hK' _ _ (hK v' w' h2 h3 h4)
end
end Go.Proofs.YtiinnkdhccgelaaDoor
