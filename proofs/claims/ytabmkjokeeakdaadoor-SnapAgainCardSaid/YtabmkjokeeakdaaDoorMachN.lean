/-
  A machine of any number of codes and threads in memory of its own, that grows call by call.
-/
import Derived.Test.YtabmkjokeeakdaaDoorMachMem
namespace Go.Proofs.YtabmkjokeeakdaaDoor
open Go.RowKit
set_option linter.unusedVariables false

def arrN (f : Nat → Value) (n : Nat) : Array Value := ((List.range n).map f).toArray
theorem arrN_size (f : Nat → Value) (n : Nat) : (arrN f n).size = n := by simp [arrN]
theorem arrN_at (f : Nat → Value) {n j : Nat} (hj : j < n) : (arrN f n)[j]? = some (f j) := by simp [arrN, hj]
theorem arrN_set (f : Nat → Value) (n j : Nat) (v : Value) : (arrN f n).setIfInBounds j v = arrN (upd f j v) n := by
  apply Array.ext_getElem?
  intro i
  rw [Array.getElem?_setIfInBounds]
  by_cases hi : i < n
  · rw [arrN_at _ hi, arrN_at _ hi, arrN_size]
    by_cases e : j = i
    · subst e; rw [if_pos rfl, if_pos hi, upd_same]
    · rw [if_neg e, upd_ne _ _ _ _ (fun h => e h.symm)]
  · have h1 : (arrN f n)[i]? = none := by simp [arrN, hi]
    have h2 : (arrN (upd f j v) n)[i]? = none := by simp [arrN, hi]
    rw [h1, h2]
    split
    · rw [arrN_size]; split
      · omega
      · rfl
    · rfl
/-- the codes and the threads of a machine -/
structure MN (B : Nat) (w : World) (nc nt : Nat) (Cb T : Nat) (cv : Nat → Value) (ks : Nat → List Op5) (tv : Nat → Value) (th : Nat → List VCall) (av : Nat → List SV) : Prop where
  geC : B ≤ Cb
  geT : B ≤ T
  cb : Blk w Cb 60 (arrN cv nc)
  tb : Blk w T 33 (arrN tv nt)
  os : ∀ i, i < nc → w.ownsRow B 99 5 (cv i) (ks i).length ((ks i).flatMap gO)
  rows : ∀ j, j < nt → CRow B w (tv j) (th j) (av j)
  dist : ∀ i j, i < nt → j < nt → i ≠ j → Apt (tv i) (tv j)
section
variable {B : Nat} {w : World} {nc nt : Nat} {Cb T : Nat} {cv : Nat → Value} {ks : Nat → List Op5} {tv : Nat → Value} {th : Nat → List VCall} {av : Nat → List SV}
theorem MN.below {w' : World} (h : MN B w nc nt Cb T cv ks tv th av) (hb : Below w.heap.size w w') : MN B w' nc nt Cb T cv ks tv th av :=
  ⟨h.geC, h.geT, h.cb.below' hb, h.tb.below' hb, fun i hi => own_below (h.os i hi) hb, fun j hj => (h.rows j hj).below hb, h.dist⟩
/-- an empty machine -/
theorem MN.start {v : Nat → Value} (hC : B ≤ Cb) (hT : B ≤ T) (cb : Blk w Cb 60 (arrN cv nc)) (tb : Blk w T 33 (arrN (fun _ => .slice none 0 0) nt)) (os : ∀ i, i < nc → w.ownsRow B 99 5 (cv i) (ks i).length ((ks i).flatMap gO)) :
    MN B w nc nt Cb T cv ks (fun _ => .slice none 0 0) (fun _ => []) (fun _ => []) :=
  ⟨hC, hT, cb, tb, os, fun j hj => CRow.nil B w, fun i j _ _ _ b hb => by cases hb⟩
/-- a thread's row is another one -/
theorem MN.put {w' : World} (h : MN B w nc nt Cb T cv ks tv th av) {j : Nat} (hj : j < nt) {v' : Value} {cs : List VCall} {vs : List SV}
    (hG : w.grownBy w' (tv j).ownBlock) (hv : v'.ownBlock = (tv j).ownBlock ∨ v'.ownBlock = none ∨ ∃ b, v'.ownBlock = some b ∧ w.heap.size ≤ b) (hr : CRow B w' v' cs vs) :
    MN B (w'.setCell ⟨T, j, none⟩ v') nc nt Cb T cv ks (upd tv j v') (upd th j cs) (upd av j vs) := by
  have hM := Chg.of_grown hG (M := fun k => (tv j).ownBlock = some k) (fun k e => e)
  have hrj := (h.rows j hj).2.1
  have hT : Blk w' T 33 (arrN tv nt) := hM.blk h.tb (own_ne_blk hrj h.tb (by decide))
  have hS : Chg (fun k => k = T) w' (w'.setCell ⟨T, j, none⟩ v') := (Chg.refl (fun k => k = T) w').setCell (p := ⟨T, j, none⟩) (fun _ => rfl) _
  have hS2 : Chg (fun k => (tv j).ownBlock = some k ∨ k = T) w (w'.setCell ⟨T, j, none⟩ v') :=
    ⟨hS.os.trans hM.os, hS.tape.trans hM.tape, hS.output.trans hM.output, Nat.le_trans hM.size hS.size, fun i hi hn => (hS.block i (Nat.lt_of_lt_of_le hi hM.size) fun e => hn (.inr e)).trans (hM.block i hi fun e => hn (.inl e))⟩
  have key : ∀ {e sz : Nat} {v : Value} {n : Nat} {xs : List Value}, e ≠ 33 → (e ≠ 35 ∨ Apt v (tv j)) → w.ownsRow B e sz v n xs → (w'.setCell ⟨T, j, none⟩ v').ownsRow B e sz v n xs := by
    intro e sz v n xs h1 h2 ho
    refine own_chg ho hS2 fun k hk hm => ?_
    rcases hm with hm | hm
    · rcases h2 with h2 | h2
      · exact h2 (own_ty ho hrj hk hm)
      · exact h2 k hk hm
    · exact own_ne_blk ho h.tb h1 (by rw [hk, hm])
  have bkey : ∀ {g t : Nat} {cs : Array Value}, t ≠ 33 → t ≠ 35 → Blk w g t cs → Blk (w'.setCell ⟨T, j, none⟩ v') g t cs := by
    intro g t cs h1 h2 hb
    refine hS2.blk hb fun hm => ?_
    rcases hm with hm | hm
    · exact own_ne_blk hrj hb (Ne.symm h2) hm
    · subst hm; exact h1 (blk_ty hb h.tb)
  refine ⟨h.geC, h.geT, bkey (by decide) (by decide) h.cb, ?_, fun i hi => key (by decide) (.inl (by decide)) (h.os i hi), ?_, ?_⟩
  · rw [← arrN_set]; exact hT.set_ j v'
  · intro i hi
    by_cases e : i = j
    · subst e
      rw [upd_same, upd_same, upd_same]
      exact hr.chg hS (fun k hk e => own_ne_blk hr.2.1 hT (by decide) (by rw [hk, e])) (fun v n xs ho k hk e => own_ne_blk ho hT (by decide) (by rw [hk, e]))
    · rw [upd_ne _ _ _ _ e, upd_ne _ _ _ _ e, upd_ne _ _ _ _ e]
      obtain ⟨r1, r2, r3⟩ := h.rows i hi
      exact ⟨r1, key (by decide) (.inr (h.dist i j hi hj e)) r2, fun k c v hk hv => key (by decide) (.inl (by decide)) (r3 k c v hk hv)⟩
  · have hnew : ∀ i, i < nt → i ≠ j → Apt (tv i) v' := by
      intro i hi hij b hb hb'
      rcases hv with e | e | ⟨b', e, hge⟩
      · rw [e] at hb'; exact h.dist i j hi hj hij b hb hb'
      · rw [e] at hb'; cases hb'
      · rw [e] at hb'; injection hb' with hb'; subst hb'
        have := (own_ge (h.rows i hi).2.1 b' hb).2
        omega
    intro a b ha hb hab
    by_cases ea : a = j
    · subst ea
      rw [upd_same, upd_ne _ _ _ _ (fun e => hab e.symm)]
      exact (hnew b hb (fun e => hab e.symm)).symm
    · rw [upd_ne _ _ _ _ ea]
      by_cases eb : b = j
      · subst eb; rw [upd_same]; exact hnew a ha ea
      · rw [upd_ne _ _ _ _ eb]; exact h.dist a b ha hb hab
/-- a thread that calls nothing -/
theorem MN.none_ (h : MN B w nc nt Cb T cv ks tv th av) {j : Nat} (hj : j < nt) :
    MN B (w.setCell ⟨T, j, none⟩ (.slice none 0 0)) nc nt Cb T cv ks (upd tv j (.slice none 0 0)) (upd th j []) (upd av j []) :=
  h.put hj (World.grownBy.refl w _) (.inr (.inl rfl)) (CRow.nil B w)
/-- behind an append to a thread's row -/
theorem MN.grown {wA w6 : World} (h : MN B w nc nt Cb T cv ks tv th av) {j : Nat} (hj : j < nt) (hb : Below w.heap.size w wA) (hG : wA.grownBy w6 (tv j).ownBlock) :
    Blk w6 T 33 (arrN tv nt) ∧ ∀ {g t : Nat} {cs : Array Value}, t ≠ 35 → Blk w g t cs → Blk w6 g t cs := by
  have hA := h.below hb
  have hM := Chg.of_grown hG (M := fun k => (tv j).ownBlock = some k) (fun k e => e)
  have r2 := (hA.rows j hj).2.1
  have key : ∀ {g t : Nat} {cs : Array Value}, t ≠ 35 → Blk w g t cs → Blk w6 g t cs := fun h1 h2 => hM.blk (h2.below' hb) (own_ne_blk r2 (h2.below' hb) (Ne.symm h1))
  exact ⟨key (by decide) h.tb, key⟩
theorem MN.chg {wA w6 : World} (h : MN B w nc nt Cb T cv ks tv th av) {j : Nat} (hj : j < nt) (hb : Below w.heap.size w wA) (hG : wA.grownBy w6 (tv j).ownBlock) {w0 : World} (h0 : Below w0.heap.size w0 w) (hB : B = w0.heap.size) (v : Value) :
    Below w0.heap.size w0 w6 ∧ Below w0.heap.size w0 (w6.setCell ⟨T, j, none⟩ v) := by
  have hA := h.below hb
  have r2 := (hA.rows j hj).2.1
  have h1 := bgo h0 hb
  subst hB
  have h6 := h1.grown hG h1.size (fun k hk => (own_ge r2 k hk).1)
  exact ⟨h6, h6.setCell (p := ⟨T, j, none⟩) h.geT v⟩
/-- what is no row of calls stays -/
theorem MN.other {wA w6 : World} (h : MN B w nc nt Cb T cv ks tv th av) {j : Nat} (hj : j < nt) (hb : Below w.heap.size w wA) (hG : wA.grownBy w6 (tv j).ownBlock) {B' e sz n : Nat} {v : Value} {xs : List Value} (ho : w.ownsRow B' e sz v n xs) (h1 : e ≠ 33) (h2 : e ≠ 35) (u : Value) :
    (w6.setCell ⟨T, j, none⟩ u).ownsRow B' e sz v n xs := by
  have hA := h.below hb
  have hoA := own_below ho hb
  have hM := Chg.of_grown hG (M := fun k => (tv j).ownBlock = some k) (fun k e => e)
  have r2 := (hA.rows j hj).2.1
  have o6 := own_chg hoA hM fun k hk hm => absurd (own_ty hoA r2 hk hm) h2
  have t6 := (h.grown hj hb hG).1
  exact own_chg o6 ((Chg.refl (fun k => k = T) w6).setCell (p := ⟨T, j, none⟩) (fun _ => rfl) u) fun k hk e2 => own_ne_blk o6 t6 h1 (by rw [hk, e2])
/-- calls more -/
theorem MN.snoc {wA w6 : World} (h : MN B w nc nt Cb T cv ks tv th av) {j : Nat} (hj : j < nt) {v' : Value} (cs : List VCall) (as_ : List SV) {y : List (VCall × SV)}
    (hb : Below w.heap.size w wA) (hl : as_.length = cs.length) (ha : ∀ (k : Nat) (c : VCall) (a : SV), cs[k]? = some c → as_[k]? = some a → wA.ownsRow B 3 1 a.v c.args.length (c.args.flatMap gI)) (hy : (th j).zip (av j) ++ cs.zip as_ = y)
    (hG : wA.grownBy w6 (tv j).ownBlock) (hv : v'.ownBlock = (tv j).ownBlock ∨ v'.ownBlock = some wA.heap.size) (hr : w6.ownsRow B 35 2 v' y.length (y.flatMap gS)) :
    MN B (w6.setCell ⟨T, j, none⟩ v') nc nt Cb T cv ks (upd tv j v') (upd th j (th j ++ cs)) (upd av j (av j ++ as_)) := by
  subst hy
  have hA := h.below hb
  obtain ⟨r1, r2, r3⟩ := hA.rows j hj
  have hM := Chg.of_grown hG (M := fun k => (tv j).ownBlock = some k) (fun k e => e)
  have hI : ∀ {v : Value} {n : Nat} {xs : List Value}, wA.ownsRow B 3 1 v n xs → w6.ownsRow B 3 1 v n xs := fun ho => own_chg ho hM fun k hk hm => absurd (own_ty ho r2 hk hm) (by decide)
  refine hA.put hj hG (by rcases hv with e | e; exact .inl e; exact .inr (.inr ⟨_, e, Nat.le_refl _⟩)) ⟨by simp [r1, hl], ?_, ?_⟩
  · rw [List.zip_append r1.symm]
    simpa [r1, hl] using hr
  · intro k d v hk hv
    rw [List.getElem?_append] at hk
    split at hk
    · rename_i hlt
      rw [List.getElem?_append_left (by omega)] at hv
      exact hI (r3 k d v hk hv)
    · rename_i hge
      rw [List.getElem?_append_right (by omega), r1] at hv
      exact hI (ha _ d v hk hv)
/-- as run.Play sees it -/
theorem MN.at_ (h : MN B w nc nt Cb T cv ks tv th av) {m : Mach} (hk : m.codes = (List.range nc).map ks) (ht : m.threads = (List.range nt).map th)
    (h1 : ∀ i, i < nc → (ks i).length ≤ 200 ∧ ∀ o ∈ ks i, OpSh (ks i).length o) (hth : ∀ j, j < nt → (th j).length ≤ 20 ∧ ∀ c ∈ th j, c.code < nc ∧ c.args.length ≤ 8) :
    MachAt w (some ⟨Cb, 0, none⟩) nc (some ⟨T, 0, none⟩) nt m := by
  have blkSl : ∀ {g t : Nat} {f : Nat → Value} {n : Nat}, Blk w g t (arrN f n) → Sl w 1 (some ⟨g, 0, none⟩) n (arrN f n).toList := fun hb => ⟨by simp [arrN], fun _ => ⟨_, rfl, fun j u hu => by rw [ad_at, hb.cell j]; simpa using hu⟩⟩
  have at2 : ∀ {α : Type} {f : Nat → α} {n i : Nat} {x : α}, ((List.range n).map f)[i]? = some x → i < n ∧ x = f i := by
    intro α f n i x hx
    rw [List.getElem?_map] at hx
    obtain ⟨u, hu, rfl⟩ := Option.map_eq_some_iff.1 hx
    rw [List.getElem?_eq_some_iff] at hu
    obtain ⟨h1, h2⟩ := hu
    simp at h1 h2
    exact ⟨h1, by rw [h2]⟩
  refine ⟨by rw [hk]; simp, by rw [ht]; simp, ⟨(arrN cv nc).toList, by simp [arrN], blkSl h.cb, ?_⟩, ⟨(arrN tv nt).toList, by simp [arrN], blkSl h.tb, ?_⟩⟩
  · intro i code hi
    rw [hk] at hi
    obtain ⟨hi', rfl⟩ := at2 hi
    clear hi
    have hi := hi'
    have ho := h.os i hi
    obtain ⟨A, c, e, _⟩ := own_form ho
    refine ⟨A, (ks i).length, c, ?_, (h1 i hi).1, rfl, (h1 i hi).2, ?_⟩
    · rw [Array.getElem?_toList, arrN_at _ hi, e]
    · rw [e] at ho; exact Sl.own ho
  · intro j calls hj
    rw [ht] at hj
    obtain ⟨hj', rfl⟩ := at2 hj
    clear hj
    have hj := hj'
    obtain ⟨r1, r2, r3⟩ := h.rows j hj
    obtain ⟨A, c, e, _⟩ := own_form r2
    rw [e] at r2
    refine ⟨A, _, c, by rw [Array.getElem?_toList, arrN_at _ hj, e], rfl, (hth j hj).1, (av j).map SV.v, by rw [List.length_map, r1], by rw [← gS_gC]; exact Sl.own r2, fun k c v hk hv => ?_⟩
    rw [List.getElem?_map] at hv
    obtain ⟨u, hu, rfl⟩ := Option.map_eq_some_iff.1 hv
    have hc := (hth j hj).2 c (List.mem_of_getElem? hk)
    have ho := r3 k c u hk hu
    obtain ⟨A', c', e', _⟩ := own_form ho
    rw [e'] at ho ⊢
    exact ⟨hc.1, A', _, c', rfl, hc.2, Sl.own ho⟩
theorem one_own {B : Nat} {w : World} : ∀ (k : Nat) (c : VCall) (a : SV), ([⟨0, []⟩] : List VCall)[k]? = some c → ([⟨none, 0, 0⟩] : List SV)[k]? = some a → w.ownsRow B 3 1 a.v c.args.length (c.args.flatMap gI) := by
  intro k c a hc ha
  rw [List.getElem?_singleton] at hc ha
  split at hc
  · rename_i h; rw [if_pos h] at ha
    injection hc with hc; injection ha with ha
    subst hc ha
    exact own0 w B _ 1
  · cases hc
theorem sees2f {W w' : World} {p q : Addr} {u v : Value} (h : Below W.heap.size W w') (hp : W.cell? p = some u) (hq : W.cell? q = some v) (hf : W.frozen? q = false) : w'.cell? p = some u ∧ w'.frozen? q = false := ⟨cell_below h hp, frozen_below h hq hf⟩
/-- threads without calls: make -/
theorem mkT (w : World) (n : Nat) (hn : n ≤ 1000) (cs : Array Value) (hcs : madeCells #[Value.slice none 0 0] n = cs) : (Instr.makeSlice 27 (.int .i64 (n : Int)) (.int .i64 (n : Int))).run Tryd.prog w = .ok (.slice (some ⟨w.heap.size, 0, none⟩) n n) (w.alloc (.cells cs 33)) := by
  have h := run_make_row' (P := Tryd.prog) 27 33 (.slice none 0 0) 24 Tryd.underlying27 (by kernel_rfl) rfl .i64 .i64 n (by first | omega | (simp only [maxLen]; omega)) (by omega) w
  rw [hcs] at h
  exact h
theorem mkT2 (w : World) : (Instr.makeSlice 27 (.int .i64 2) (.int .i64 2)).run Tryd.prog w = .ok (.slice (some ⟨w.heap.size, 0, none⟩) 2 2) (w.alloc (.cells #[.slice none 0 0, .slice none 0 0] 33)) := mkT w 2 (by decide) _ (by apply Array.ext'; rw [Go.toList_madeCells_one]; rfl)
theorem mkT3 (w : World) : (Instr.makeSlice 27 (.int .i64 3) (.int .i64 3)).run Tryd.prog w = .ok (.slice (some ⟨w.heap.size, 0, none⟩) 3 3) (w.alloc (.cells #[.slice none 0 0, .slice none 0 0, .slice none 0 0] 33)) := mkT w 3 (by decide) _ (by apply Array.ext'; rw [Go.toList_madeCells_one]; rfl)
theorem mkT4 (w : World) : (Instr.makeSlice 27 (.int .i64 4) (.int .i64 4)).run Tryd.prog w = .ok (.slice (some ⟨w.heap.size, 0, none⟩) 4 4) (w.alloc (.cells #[.slice none 0 0, .slice none 0 0, .slice none 0 0, .slice none 0 0] 33)) := mkT w 4 (by decide) _ (by apply Array.ext'; rw [Go.toList_madeCells_one]; rfl)
theorem elmCN : Elm Tryd.prog 33 35 2 32 := elm_of (z := .agg #[.int .i64 0, .slice none 0 0]) Tryd.underlying33 (by kernel_rfl) rfl (by decide)
theorem chg3 {R : Nat} (w : World) (a b c : Value) : Chg (fun k => k = R) w (((w.setCell ⟨R, 0, none⟩ a).setCell ⟨R, 1, none⟩ b).setCell ⟨R, 2, none⟩ c) :=
  (((Chg.refl (fun k => k = R) w).setCell (p := ⟨R, 0, none⟩) (fun _ => rfl) _).setCell (p := ⟨R, 1, none⟩) (fun _ => rfl) _).setCell (p := ⟨R, 2, none⟩) (fun _ => rfl) _
theorem MN.res (h : MN B w nc nt Cb T cv ks tv th av) {R : Nat} {cs : Array Value} (hR : Blk w R 29 cs) (a b c : Value) :
    MN B (((w.setCell ⟨R, 0, none⟩ a).setCell ⟨R, 1, none⟩ b).setCell ⟨R, 2, none⟩ c) nc nt Cb T cv ks tv th av := by
  have hC := chg3 (R := R) w a b c
  have bk : ∀ {g t : Nat} {cs' : Array Value}, t ≠ 29 → Blk w g t cs' → Blk (((w.setCell ⟨R, 0, none⟩ a).setCell ⟨R, 1, none⟩ b).setCell ⟨R, 2, none⟩ c) g t cs' := fun h1 h2 => hC.blk h2 fun e => by subst e; exact h1 (blk_ty h2 hR)
  have ok : ∀ {B e sz : Nat} {v' : Value} {n : Nat} {xs : List Value}, e ≠ 29 → w.ownsRow B e sz v' n xs → (((w.setCell ⟨R, 0, none⟩ a).setCell ⟨R, 1, none⟩ b).setCell ⟨R, 2, none⟩ c).ownsRow B e sz v' n xs := fun h1 h2 => own_chg h2 hC fun k hk e => own_ne_blk h2 hR h1 (by rw [hk, e])
  exact ⟨h.geC, h.geT, bk (by decide) h.cb, bk (by decide) h.tb, fun i hi => ok (by decide) (h.os i hi), fun j hj => ⟨(h.rows j hj).1, ok (by decide) (h.rows j hj).2.1, fun k c v hk hv => ok (by decide) ((h.rows j hj).2.2 k c v hk hv)⟩, h.dist⟩
theorem own_res {w : World} {R B e sz n : Nat} {v : Value} {xs : List Value} {cs : Array Value} (h : w.ownsRow B e sz v n xs) (hR : Blk w R 29 cs) (he : e ≠ 29) (a b c : Value) :
    (((w.setCell ⟨R, 0, none⟩ a).setCell ⟨R, 1, none⟩ b).setCell ⟨R, 2, none⟩ c).ownsRow B e sz v n xs := own_chg h (chg3 (R := R) w a b c) fun k hk e2 => own_ne_blk h hR he (by rw [hk, e2])
theorem set3N {w : World} {R : Nat} {t : TypeId} {x y z : Value} (hR : Blk w R t #[x, y, z]) (a b c : Value) : (((w.setCell ⟨R, 0, none⟩ a).setCell ⟨R, 1, none⟩ b).setCell ⟨R, 2, none⟩ c).cell? ⟨R, 0, none⟩ = some a ∧ (((w.setCell ⟨R, 0, none⟩ a).setCell ⟨R, 1, none⟩ b).setCell ⟨R, 2, none⟩ c).cell? ⟨R, 1, none⟩ = some b ∧ (((w.setCell ⟨R, 0, none⟩ a).setCell ⟨R, 1, none⟩ b).setCell ⟨R, 2, none⟩ c).cell? ⟨R, 2, none⟩ = some c :=
  ⟨(((hR.set_ 0 a).set_ 1 b).set_ 2 c).cell 0, (((hR.set_ 0 a).set_ 1 b).set_ 2 c).cell 1, (((hR.set_ 0 a).set_ 1 b).set_ 2 c).cell 2⟩
theorem below3N {w wr : World} (h : Below w.heap.size w wr) (a b c : Value) : Below w.heap.size w (((wr.setCell ⟨w.heap.size, 0, none⟩ a).setCell ⟨w.heap.size, 1, none⟩ b).setCell ⟨w.heap.size, 2, none⟩ c) :=
  ((h.setCell (p := ⟨w.heap.size, 0, none⟩) (Nat.le_refl _) a).setCell (p := ⟨w.heap.size, 1, none⟩) (Nat.le_refl _) b).setCell (p := ⟨w.heap.size, 2, none⟩) (Nat.le_refl _) c
/-- what a machine's maker returns -/
def MachPostN (w : World) (ws : List Int) (nc nt : Nat) (ks : Nat → List Op5) (th : Nat → List VCall) (e : Ending) (w' : World) : Prop :=
  ∃ (AW : Option Addr) (cW Cb T : Nat) (cv tv : Nat → Value) (av : Nat → List SV), e = .returned (.agg #[.slice AW ws.length cW, .slice (some ⟨Cb, 0, none⟩) nc nc, .slice (some ⟨T, 0, none⟩) nt nt]) ∧
    w'.ownsRow w.heap.size 3 1 (.slice AW ws.length cW) ws.length (ws.flatMap gI) ∧ MN w.heap.size w' nc nt Cb T cv ks tv th av ∧ Below w.heap.size w w'
end
end Go.Proofs.YtabmkjokeeakdaaDoor
