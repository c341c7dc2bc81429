/-
  A machine in memory of its own whose codes are a row that grows. Written by gen_machg.py.
-/
import Derived.Test.YtnoinojhocicjaaDoorMBun
namespace Go.Proofs.YtnoinojhocicjaaDoor
open Go.RowKit
set_option linter.unusedVariables false

/-- the codes and the threads of a machine -/
structure MG (B : Nat) (w : World) (nc nt : Nat) (cvv : Value) (T : Nat) (cv : Nat → Value) (ks : Nat → List Op5) (tv : Nat → Value) (th : Nat → List VCall) (av : Nat → List SV) : Prop where
  geT : B ≤ T
  co : w.ownsRow B 33 1 cvv nc ((List.range nc).map cv)
  capt : ∀ i j, i < nc → j < nc → i ≠ j → Apt (cv i) (cv j)
  tb : Blk w T 44 (arrN tv nt)
  os : ∀ i, i < nc → w.ownsRow B 81 5 (cv i) (ks i).length ((ks i).flatMap gO)
  rows : ∀ j, j < nt → CRow B w (tv j) (th j) (av j)
  dist : ∀ i j, i < nt → j < nt → i ≠ j → Apt (tv i) (tv j)
section
variable {B : Nat} {w : World} {nc nt : Nat} {cvv : Value} {T : Nat} {cv : Nat → Value} {ks : Nat → List Op5} {tv : Nat → Value} {th : Nat → List VCall} {av : Nat → List SV}
theorem MG.below {w' : World} (h : MG B w nc nt cvv T cv ks tv th av) (hb : Below w.heap.size w w') : MG B w' nc nt cvv T cv ks tv th av :=
  ⟨h.geT, own_below h.co hb, h.capt, h.tb.below' hb, fun i hi => own_below (h.os i hi) hb, fun j hj => (h.rows j hj).below hb, h.dist⟩
/-- an empty machine -/
theorem MG.start {v : Nat → Value} (hT : B ≤ T) (co : w.ownsRow B 33 1 cvv nc ((List.range nc).map cv)) (capt : ∀ i j, i < nc → j < nc → i ≠ j → Apt (cv i) (cv j)) (tb : Blk w T 44 (arrN (fun _ => .slice none 0 0) nt)) (os : ∀ i, i < nc → w.ownsRow B 81 5 (cv i) (ks i).length ((ks i).flatMap gO)) :
    MG B w nc nt cvv T cv ks (fun _ => .slice none 0 0) (fun _ => []) (fun _ => []) :=
  ⟨hT, co, capt, tb, os, fun j hj => CRow.nil B w, fun i j _ _ _ b hb => by cases hb⟩
/-- a thread's row is another one -/
theorem MG.put {w' : World} (h : MG B w nc nt cvv T cv ks tv th av) {j : Nat} (hj : j < nt) {v' : Value} {cs : List VCall} {vs : List SV}
    (hG : w.grownBy w' (tv j).ownBlock) (hv : v'.ownBlock = (tv j).ownBlock ∨ v'.ownBlock = none ∨ ∃ b, v'.ownBlock = some b ∧ w.heap.size ≤ b) (hr : CRow B w' v' cs vs) :
    MG B (w'.setCell ⟨T, j, none⟩ v') nc nt cvv T cv ks (upd tv j v') (upd th j cs) (upd av j vs) := by
  have hM := Chg.of_grown hG (M := fun k => (tv j).ownBlock = some k) (fun k e => e)
  have hrj := (h.rows j hj).2.1
  have hT : Blk w' T 44 (arrN tv nt) := hM.blk h.tb (own_ne_blk hrj h.tb (by decide))
  have hS : Chg (fun k => k = T) w' (w'.setCell ⟨T, j, none⟩ v') := (Chg.refl (fun k => k = T) w').setCell (p := ⟨T, j, none⟩) (fun _ => rfl) _
  have hS2 : Chg (fun k => (tv j).ownBlock = some k ∨ k = T) w (w'.setCell ⟨T, j, none⟩ v') :=
    ⟨hS.os.trans hM.os, hS.tape.trans hM.tape, hS.output.trans hM.output, Nat.le_trans hM.size hS.size, fun i hi hn => (hS.block i (Nat.lt_of_lt_of_le hi hM.size) fun e => hn (.inr e)).trans (hM.block i hi fun e => hn (.inl e))⟩
  have key : ∀ {e sz : Nat} {v : Value} {n : Nat} {xs : List Value}, e ≠ 44 → (e ≠ 46 ∨ Apt v (tv j)) → w.ownsRow B e sz v n xs → (w'.setCell ⟨T, j, none⟩ v').ownsRow B e sz v n xs := by
    intro e sz v n xs h1 h2 ho
    refine own_chg ho hS2 fun k hk hm => ?_
    rcases hm with hm | hm
    · rcases h2 with h2 | h2
      · exact h2 (own_ty ho hrj hk hm)
      · exact h2 k hk hm
    · exact own_ne_blk ho h.tb h1 (by rw [hk, hm])
  refine ⟨h.geT, key (by decide) (.inl (by decide)) h.co, h.capt, ?_, fun i hi => key (by decide) (.inl (by decide)) (h.os i hi), ?_, ?_⟩
  · rw [← arrN_set]; exact hT.set_ j v'
  · intro i hi
    by_cases e : i = j
    · subst e
      rw [upd_same, upd_same, upd_same]
      exact hr.chg hS (fun k hk e => own_ne_blk hr.2.1 hT (by decide) (by rw [hk, e])) (fun v n xs ho k hk e => own_ne_blk ho hT (by decide) (by rw [hk, e]))
    · rw [upd_ne _ _ _ _ e, upd_ne _ _ _ _ e, upd_ne _ _ _ _ e]
      obtain ⟨r1, r2, r3⟩ := h.rows i hi
      exact ⟨r1, key (by decide) (.inr (h.dist i j hi hj e)) r2, fun k c v hk hv => key (by decide) (.inl (by decide)) (r3 k c v hk hv)⟩
  · have hnew : ∀ i, i < nt → i ≠ j → Apt (tv i) v' := by
      intro i hi hij b hb hb'
      rcases hv with e | e | ⟨b', e, hge⟩
      · rw [e] at hb'; exact h.dist i j hi hj hij b hb hb'
      · rw [e] at hb'; cases hb'
      · rw [e] at hb'; injection hb' with hb'; subst hb'
        have := (own_ge (h.rows i hi).2.1 b' hb).2
        omega
    intro a b ha hb hab
    by_cases ea : a = j
    · subst ea
      rw [upd_same, upd_ne _ _ _ _ (fun e => hab e.symm)]
      exact (hnew b hb (fun e => hab e.symm)).symm
    · rw [upd_ne _ _ _ _ ea]
      by_cases eb : b = j
      · subst eb; rw [upd_same]; exact hnew a ha ea
      · rw [upd_ne _ _ _ _ eb]; exact h.dist a b ha hb hab
/-- a thread that calls nothing -/
theorem MG.none_ (h : MG B w nc nt cvv T cv ks tv th av) {j : Nat} (hj : j < nt) :
    MG B (w.setCell ⟨T, j, none⟩ (.slice none 0 0)) nc nt cvv T cv ks (upd tv j (.slice none 0 0)) (upd th j []) (upd av j []) :=
  h.put hj (World.grownBy.refl w _) (.inr (.inl rfl)) (CRow.nil B w)
/-- behind an append to a thread's row -/
theorem MG.grown {wA w6 : World} (h : MG B w nc nt cvv T cv ks tv th av) {j : Nat} (hj : j < nt) (hb : Below w.heap.size w wA) (hG : wA.grownBy w6 (tv j).ownBlock) :
    Blk w6 T 44 (arrN tv nt) ∧ ∀ {g t : Nat} {cs : Array Value}, t ≠ 46 → Blk w g t cs → Blk w6 g t cs := by
  have hA := h.below hb
  have hM := Chg.of_grown hG (M := fun k => (tv j).ownBlock = some k) (fun k e => e)
  have r2 := (hA.rows j hj).2.1
  have key : ∀ {g t : Nat} {cs : Array Value}, t ≠ 46 → Blk w g t cs → Blk w6 g t cs := fun h1 h2 => hM.blk (h2.below' hb) (own_ne_blk r2 (h2.below' hb) (Ne.symm h1))
  exact ⟨key (by decide) h.tb, key⟩
theorem MG.chg {wA w6 : World} (h : MG B w nc nt cvv T cv ks tv th av) {j : Nat} (hj : j < nt) (hb : Below w.heap.size w wA) (hG : wA.grownBy w6 (tv j).ownBlock) {w0 : World} (h0 : Below w0.heap.size w0 w) (hB : B = w0.heap.size) (v : Value) :
    Below w0.heap.size w0 w6 ∧ Below w0.heap.size w0 (w6.setCell ⟨T, j, none⟩ v) := by
  have hA := h.below hb
  have r2 := (hA.rows j hj).2.1
  have h1 := bgo h0 hb
  subst hB
  have h6 := h1.grown hG h1.size (fun k hk => (own_ge r2 k hk).1)
  exact ⟨h6, h6.setCell (p := ⟨T, j, none⟩) h.geT v⟩
/-- what is no row of calls stays -/
theorem MG.other {wA w6 : World} (h : MG B w nc nt cvv T cv ks tv th av) {j : Nat} (hj : j < nt) (hb : Below w.heap.size w wA) (hG : wA.grownBy w6 (tv j).ownBlock) {B' e sz n : Nat} {v : Value} {xs : List Value} (ho : w.ownsRow B' e sz v n xs) (h1 : e ≠ 44) (h2 : e ≠ 46) (u : Value) :
    (w6.setCell ⟨T, j, none⟩ u).ownsRow B' e sz v n xs := by
  have hA := h.below hb
  have hoA := own_below ho hb
  have hM := Chg.of_grown hG (M := fun k => (tv j).ownBlock = some k) (fun k e => e)
  have r2 := (hA.rows j hj).2.1
  have o6 := own_chg hoA hM fun k hk hm => absurd (own_ty hoA r2 hk hm) h2
  have t6 := (h.grown hj hb hG).1
  exact own_chg o6 ((Chg.refl (fun k => k = T) w6).setCell (p := ⟨T, j, none⟩) (fun _ => rfl) u) fun k hk e2 => own_ne_blk o6 t6 h1 (by rw [hk, e2])
/-- calls more -/
theorem MG.snoc {wA w6 : World} (h : MG B w nc nt cvv T cv ks tv th av) {j : Nat} (hj : j < nt) {v' : Value} (cs : List VCall) (as_ : List SV) {y : List (VCall × SV)}
    (hb : Below w.heap.size w wA) (hl : as_.length = cs.length) (ha : ∀ (k : Nat) (c : VCall) (a : SV), cs[k]? = some c → as_[k]? = some a → wA.ownsRow B 3 1 a.v c.args.length (c.args.flatMap gI)) (hy : (th j).zip (av j) ++ cs.zip as_ = y)
    (hG : wA.grownBy w6 (tv j).ownBlock) (hv : v'.ownBlock = (tv j).ownBlock ∨ v'.ownBlock = some wA.heap.size) (hr : w6.ownsRow B 46 2 v' y.length (y.flatMap gS)) :
    MG B (w6.setCell ⟨T, j, none⟩ v') nc nt cvv T cv ks (upd tv j v') (upd th j (th j ++ cs)) (upd av j (av j ++ as_)) := by
  subst hy
  have hA := h.below hb
  obtain ⟨r1, r2, r3⟩ := hA.rows j hj
  have hM := Chg.of_grown hG (M := fun k => (tv j).ownBlock = some k) (fun k e => e)
  have hI : ∀ {v : Value} {n : Nat} {xs : List Value}, wA.ownsRow B 3 1 v n xs → w6.ownsRow B 3 1 v n xs := fun ho => own_chg ho hM fun k hk hm => absurd (own_ty ho r2 hk hm) (by decide)
  refine hA.put hj hG (by rcases hv with e | e; exact .inl e; exact .inr (.inr ⟨_, e, Nat.le_refl _⟩)) ⟨by simp [r1, hl], ?_, ?_⟩
  · rw [List.zip_append r1.symm]
    simpa [r1, hl] using hr
  · intro k d v hk hv
    rw [List.getElem?_append] at hk
    split at hk
    · rename_i hlt
      rw [List.getElem?_append_left (by omega)] at hv
      exact hI (r3 k d v hk hv)
    · rename_i hge
      rw [List.getElem?_append_right (by omega), r1] at hv
      exact hI (ha _ d v hk hv)
/-- as run.Play sees it -/
theorem MG.at_ (h : MG B w nc nt cvv T cv ks tv th av) {AC : Option Addr} {cC : Nat} (hcvv : cvv = .slice AC nc cC) {m : Mach} (hk : m.codes = (List.range nc).map ks) (ht : m.threads = (List.range nt).map th)
    (h1 : ∀ i, i < nc → (ks i).length ≤ 200 ∧ ∀ o ∈ ks i, OpSh (ks i).length o) (hth : ∀ j, j < nt → (th j).length ≤ 20 ∧ ∀ c ∈ th j, c.code < nc ∧ c.args.length ≤ 8) :
    MachAt w AC nc (some ⟨T, 0, none⟩) nt m := by
  have blkSl : ∀ {g t : Nat} {f : Nat → Value} {n : Nat}, Blk w g t (arrN f n) → Sl w 1 (some ⟨g, 0, none⟩) n (arrN f n).toList := fun hb => ⟨by simp [arrN], fun _ => ⟨_, rfl, fun j u hu => by rw [ad_at, hb.cell j]; simpa using hu⟩⟩
  have at2 : ∀ {α : Type} {f : Nat → α} {n i : Nat} {x : α}, ((List.range n).map f)[i]? = some x → i < n ∧ x = f i := by
    intro α f n i x hx
    rw [List.getElem?_map] at hx
    obtain ⟨u, hu, rfl⟩ := Option.map_eq_some_iff.1 hx
    rw [List.getElem?_eq_some_iff] at hu
    obtain ⟨h1, h2⟩ := hu
    simp at h1 h2
    exact ⟨h1, by rw [h2]⟩
  refine ⟨by rw [hk]; simp, by rw [ht]; simp, ⟨(List.range nc).map cv, by simp, Sl.own (by have h2 := h.co; rw [hcvv] at h2; exact h2), ?_⟩, ⟨(arrN tv nt).toList, by simp [arrN], blkSl h.tb, ?_⟩⟩
  · intro i code hi
    rw [hk] at hi
    obtain ⟨hi', rfl⟩ := at2 hi
    clear hi
    have hi := hi'
    have ho := h.os i hi
    obtain ⟨A, c, e, _⟩ := own_form ho
    refine ⟨A, (ks i).length, c, ?_, (h1 i hi).1, rfl, (h1 i hi).2, ?_⟩
    · rw [List.getElem?_map, List.getElem?_range hi, Option.map_some, e]
    · rw [e] at ho; exact Sl.own ho
  · intro j calls hj
    rw [ht] at hj
    obtain ⟨hj', rfl⟩ := at2 hj
    clear hj
    have hj := hj'
    obtain ⟨r1, r2, r3⟩ := h.rows j hj
    obtain ⟨A, c, e, _⟩ := own_form r2
    rw [e] at r2
    refine ⟨A, _, c, by rw [Array.getElem?_toList, arrN_at _ hj, e], rfl, (hth j hj).1, (av j).map SV.v, by rw [List.length_map, r1], by rw [← gS_gC]; exact Sl.own r2, fun k c v hk hv => ?_⟩
    rw [List.getElem?_map] at hv
    obtain ⟨u, hu, rfl⟩ := Option.map_eq_some_iff.1 hv
    have hc := (hth j hj).2 c (List.mem_of_getElem? hk)
    have ho := r3 k c u hk hu
    obtain ⟨A', c', e', _⟩ := own_form ho
    rw [e'] at ho ⊢
    exact ⟨hc.1, A', _, c', rfl, hc.2, Sl.own ho⟩
theorem MG.res (h : MG B w nc nt cvv T cv ks tv th av) {R : Nat} {cs : Array Value} (hR : Blk w R 27 cs) (a b c : Value) :
    MG B (((w.setCell ⟨R, 0, none⟩ a).setCell ⟨R, 1, none⟩ b).setCell ⟨R, 2, none⟩ c) nc nt cvv T cv ks tv th av := by
  have hC := chg3 (R := R) w a b c
  have bk : ∀ {g t : Nat} {cs' : Array Value}, t ≠ 27 → Blk w g t cs' → Blk (((w.setCell ⟨R, 0, none⟩ a).setCell ⟨R, 1, none⟩ b).setCell ⟨R, 2, none⟩ c) g t cs' := fun h1 h2 => hC.blk h2 fun e => by subst e; exact h1 (blk_ty h2 hR)
  have ok : ∀ {B e sz : Nat} {v' : Value} {n : Nat} {xs : List Value}, e ≠ 27 → w.ownsRow B e sz v' n xs → (((w.setCell ⟨R, 0, none⟩ a).setCell ⟨R, 1, none⟩ b).setCell ⟨R, 2, none⟩ c).ownsRow B e sz v' n xs := fun h1 h2 => own_chg h2 hC fun k hk e => own_ne_blk h2 hR h1 (by rw [hk, e])
  exact ⟨h.geT, ok (by decide) h.co, h.capt, bk (by decide) h.tb, fun i hi => ok (by decide) (h.os i hi), fun j hj => ⟨(h.rows j hj).1, ok (by decide) (h.rows j hj).2.1, fun k c v hk hv => ok (by decide) ((h.rows j hj).2.2 k c v hk hv)⟩, h.dist⟩
/-- one more code -/
theorem MG.code {wA w6 : World} (h : MG B w nc nt cvv T cv ks tv th av) {v cvv' : Value} {k : List Op5} (hb : Below w.heap.size w wA) (hnew : wA.ownsRow B 81 5 v k.length (k.flatMap gO)) (hf : ∀ b, v.ownBlock = some b → w.heap.size ≤ b)
    (hG : wA.grownBy w6 cvv.ownBlock) (hr : w6.ownsRow B 33 1 cvv' (nc + 1) ((List.range (nc + 1)).map (upd cv nc v))) : MG B w6 (nc + 1) nt cvv' T (upd cv nc v) (upd ks nc k) tv th av := by
  have hA := h.below hb
  have hM := Chg.of_grown hG (M := fun k => cvv.ownBlock = some k) (fun k e => e)
  have hco := hA.co
  have ok : ∀ {e sz : Nat} {u : Value} {n : Nat} {xs : List Value}, e ≠ 33 → wA.ownsRow B e sz u n xs → w6.ownsRow B e sz u n xs := fun h1 h2 => own_chg h2 hM fun k hk hm => h1 (own_ty h2 hco hk hm)
  have bk : ∀ {g t : Nat} {cs : Array Value}, t ≠ 33 → Blk wA g t cs → Blk w6 g t cs := fun h1 h2 => hM.blk h2 (own_ne_blk hco h2 (Ne.symm h1))
  have hap : ∀ i, i < nc → Apt (cv i) v := fun i hi b hb1 hb2 => by
    have h1 := (own_ge (h.os i hi) b hb1).2
    have h2 := hf b hb2
    omega
  refine ⟨hA.geT, hr, fun i j hi hj hij => ?_, bk (by decide) hA.tb, fun i hi => ?_, fun j hj => ?_, h.dist⟩
  · by_cases ei : i = nc
    · subst ei
      rw [upd_same, upd_ne _ _ _ _ (fun e => hij e.symm)]
      exact (hap j (by omega)).symm
    · rw [upd_ne _ _ _ _ ei]
      by_cases ej : j = nc
      · subst ej; rw [upd_same]; exact hap i (by omega)
      · rw [upd_ne _ _ _ _ ej]; exact h.capt i j (by omega) (by omega) hij
  · by_cases ei : i = nc
    · subst ei
      rw [upd_same, upd_same]; exact ok (by decide) hnew
    · rw [upd_ne _ _ _ _ ei, upd_ne _ _ _ _ ei]; exact ok (by decide) (hA.os i (by omega))
  · obtain ⟨r1, r2, r3⟩ := hA.rows j hj
    exact ⟨r1, ok (by decide) r2, fun k c a hk hak => ok (by decide) (r3 k c a hk hak)⟩
end
structure MBunG (W0 w : World) (g0 : Nat) (cs0 : Array Value) (R X : Nat) (cvv : Value) (T nc nt : Nat) (Wv : Value) (ws : List Int) (cv : Nat → Value) (ks : Nat → List Op5) (tv : Nat → Value) (th : Nat → List VCall) (av : Nat → List SV) : Prop where
  below : Below W0.heap.size W0 w
  hg : Blk w g0 27 cs0
  hr : Blk w R 27 nil3
  hx : Blk w X 27 #[Wv, cvv, .slice (some ⟨T, 0, none⟩) nt nt]
  own : w.ownsRow W0.heap.size 3 1 Wv ws.length (ws.flatMap gI)
  mn : MG W0.heap.size w nc nt cvv T cv ks tv th av
section
variable {W0 w w' : World} {g0 : Nat} {cs0 : Array Value} {R X : Nat} {cvv : Value} {T nc nt : Nat} {Wv : Value} {ws : List Int} {cv : Nat → Value} {ks : Nat → List Op5} {tv : Nat → Value} {th : Nat → List VCall} {av : Nat → List SV}
theorem MBunG.step (h : MBunG W0 w g0 cs0 R X cvv T nc nt Wv ws cv ks tv th av) (hb : Below w.heap.size w w') : MBunG W0 w' g0 cs0 R X cvv T nc nt Wv ws cv ks tv th av :=
  ⟨bgo h.below hb, h.hg.below' hb, h.hr.below' hb, h.hx.below' hb, own_below h.own hb, h.mn.below hb⟩
theorem MBunG.row (h : MBunG W0 w g0 cs0 R X cvv T nc nt Wv ws cv ks tv th av) {j : Nat} (hj : j < nt) : ∃ (Aj : Option Addr) (cj : Nat), tv j = .slice Aj (th j).length cj ∧ ARow W0 w X T j nt (th j).length Aj cj ((th j).zip (av j)) := by
  have hrow := h.mn.rows j hj
  obtain ⟨Aj, cj, hAj, hcj1, hcj2⟩ := own_form hrow.2.1
  have hlen : ((th j).zip (av j)).length = (th j).length := by rw [List.length_zip, hrow.1, Nat.min_self]
  refine ⟨Aj, cj, hAj, h.below.size, h.hx.cell 2, ?_, h.mn.tb.frozen j, hlen, hcj1, hcj2, fun w' hb => ?_, fun wA w6 hb hG => ?_⟩
  · rw [h.mn.tb.cell j, arrN_at tv hj, hAj]
  · have h1 := own_below hrow.2.1 hb
    rw [hAj] at h1
    rw [hlen]
    exact h1
  · rw [← hAj] at hG
    obtain ⟨g1, g2⟩ := h.mn.grown hj hb hG
    have gX := g2 (by decide) h.hx
    exact ⟨⟨gX.cell 2, g1.frozen j⟩, by rw [g1.cell j, arrN_at tv hj, hAj], fun v => ⟨(gX.far (p := ⟨T, j, none⟩) (gX.ne_ g1 (by decide)) v).cell 2, (g1.set_ j v).frozen j⟩⟩
/-- behind an append -/
theorem MBunG.app (h : MBunG W0 w g0 cs0 R X cvv T nc nt Wv ws cv ks tv th av) {j : Nat} (hj : j < nt) {wA w6 : World} {v' : Value} (cs : List VCall) (as_ : List SV) {y : List (VCall × SV)}
    (hb : Below w.heap.size w wA) (hl : as_.length = cs.length) (ha : ∀ (k : Nat) (c : VCall) (a : SV), cs[k]? = some c → as_[k]? = some a → wA.ownsRow W0.heap.size 3 1 a.v c.args.length (c.args.flatMap gI)) (hy : (th j).zip (av j) ++ cs.zip as_ = y)
    (hG : wA.grownBy w6 (tv j).ownBlock) (hv : v'.ownBlock = (tv j).ownBlock ∨ v'.ownBlock = some wA.heap.size) (hr : w6.ownsRow W0.heap.size 46 2 v' y.length (y.flatMap gS)) :
    MBunG W0 (w6.setCell ⟨T, j, none⟩ v') g0 cs0 R X cvv T nc nt Wv ws cv ks (upd tv j v') (upd th j (th j ++ cs)) (upd av j (av j ++ as_)) := by
  obtain ⟨g1, g2⟩ := h.mn.grown hj hb hG
  have far : ∀ {g : Nat} {cs : Array Value}, Blk w g 27 cs → Blk (w6.setCell ⟨T, j, none⟩ v') g 27 cs := fun hx => (g2 (by decide) hx).far (p := ⟨T, j, none⟩) ((g2 (by decide) hx).ne_ g1 (by decide)) v'
  exact ⟨(h.mn.chg hj hb hG h.below rfl v').2, far h.hg, far h.hr, far h.hx, h.mn.other hj hb hG h.own (by decide) (by decide) v', h.mn.snoc hj cs as_ hb hl ha hy hG hv hr⟩
/-- a cell of a code -/
theorem MBunG.setop (h : MBunG W0 w g0 cs0 R X cvv T nc nt Wv ws cv ks tv th av) {i0 bk n c k j : Nat} (hi0 : i0 < nc) (hcv : cv i0 = .slice (some ⟨bk, 0, none⟩) n c) (hn : (ks i0).length = n) {x y : Op5} {u : Value}
    (hx : (ks i0)[k]? = some x) (hj : j < 5) (hy : gO y = (gO x).set j u) :
    MBunG W0 (w.setCell ⟨bk, k * 5 + j, none⟩ u) g0 cs0 R X cvv T nc nt Wv ws cv (upd ks i0 ((ks i0).set k y)) tv th av := by
  have ho := h.mn.os i0 hi0
  rw [hcv, hn] at ho
  obtain ⟨h1, _⟩ := own_setG (g := gO) (fun _ => rfl) ho hx hj hy
  have hb : (Value.slice (some ⟨bk, 0, none⟩) n c).ownBlock = some bk := rfl
  have hge := (own_ge ho bk rfl).1
  have hS : Chg (fun k => k = bk) w (w.setCell ⟨bk, k * 5 + j, none⟩ u) := (Chg.refl (fun k => k = bk) w).setCell (p := ⟨bk, k * 5 + j, none⟩) (fun _ => rfl) _
  have bkey : ∀ {g t : Nat} {cs : Array Value}, t ≠ 81 → Blk w g t cs → Blk (w.setCell ⟨bk, k * 5 + j, none⟩ u) g t cs := fun h1 h2 => hS.blk h2 fun e => own_ne_blk ho h2 (Ne.symm h1) (by rw [hb, e])
  have okey : ∀ {B' e sz n' : Nat} {v : Value} {xs : List Value}, e ≠ 81 → w.ownsRow B' e sz v n' xs → (w.setCell ⟨bk, k * 5 + j, none⟩ u).ownsRow B' e sz v n' xs := fun h1 h2 => own_chg h2 hS fun k' hk' e => h1 (own_ty h2 ho hk' (by rw [hb, e]))
  refine ⟨h.below.setCell (p := ⟨bk, k * 5 + j, none⟩) hge u, bkey (by decide) h.hg, bkey (by decide) h.hr, bkey (by decide) h.hx, okey (by decide) h.own, ⟨h.mn.geT, okey (by decide) h.mn.co, h.mn.capt, bkey (by decide) h.mn.tb, fun i hi => ?_, fun j' hj' => ?_, h.mn.dist⟩⟩
  · by_cases e : i = i0
    · subst e
      rw [upd_same, hcv, List.length_set, hn]
      exact h1
    · rw [upd_ne _ _ _ _ e]
      exact own_chg (h.mn.os i hi) hS fun k' hk' e2 => h.mn.capt i i0 hi hi0 e k' hk' (by rw [hcv, e2]; rfl)
  · obtain ⟨r1, r2, r3⟩ := h.mn.rows j' hj'
    exact ⟨r1, okey (by decide) r2, fun a b c ha hb => okey (by decide) (r3 a b c ha hb)⟩
/-- an operation of a code -/
theorem MBunG.op5 (h : MBunG W0 w g0 cs0 R X cvv T nc nt Wv ws cv ks tv th av) {i0 bk n c k : Nat} (hi0 : i0 < nc) (hcv : cv i0 = .slice (some ⟨bk, 0, none⟩) n c) (hn : (ks i0).length = n) (hk : k < n) (o : Op5) :
    MBunG W0 (((((w.setCell ⟨bk, k * 5, none⟩ (.int .i64 o.k)).setCell ⟨bk, k * 5 + 1, none⟩ (.int .i64 o.a)).setCell ⟨bk, k * 5 + 2, none⟩ (.int .i64 o.b)).setCell ⟨bk, k * 5 + 3, none⟩ (.int .i64 o.c)).setCell ⟨bk, k * 5 + 4, none⟩ (.int .i64 o.d)) g0 cs0 R X cvv T nc nt Wv ws cv (upd ks i0 ((ks i0).set k o)) tv th av := by
  obtain ⟨x, hx⟩ : ∃ x, (ks i0)[k]? = some x := ⟨_, List.getElem?_eq_getElem (by omega)⟩
  have hu : ∀ (f : Nat → List Op5) (l1 l2 : List Op5), upd (upd f i0 l1) i0 l2 = upd f i0 l2 := by intro f l1 l2; funext j; unfold upd; split <;> rfl
  have hg : ∀ y : Op5, ((ks i0).set k y)[k]? = some y := fun y => List.getElem?_set_self (by omega)
  have h1 := h.setop (j := 0) (y := { x with k := o.k }) (u := .int .i64 o.k) hi0 hcv hn hx (by decide) rfl
  have h2 := h1.setop (k := k) (x := { x with k := o.k }) (j := 1) (y := { x with k := o.k, a := o.a }) (u := .int .i64 o.a) hi0 hcv (by rw [upd_same, List.length_set]; exact hn) (by rw [upd_same]; exact hg _) (by decide) rfl
  rw [upd_same, List.set_set, hu] at h2
  have h3 := h2.setop (k := k) (x := { x with k := o.k, a := o.a }) (j := 2) (y := { x with k := o.k, a := o.a, b := o.b }) (u := .int .i64 o.b) hi0 hcv (by rw [upd_same, List.length_set]; exact hn) (by rw [upd_same]; exact hg _) (by decide) rfl
  rw [upd_same, List.set_set, hu] at h3
  have h4 := h3.setop (k := k) (x := { x with k := o.k, a := o.a, b := o.b }) (j := 3) (y := { x with k := o.k, a := o.a, b := o.b, c := o.c }) (u := .int .i64 o.c) hi0 hcv (by rw [upd_same, List.length_set]; exact hn) (by rw [upd_same]; exact hg _) (by decide) rfl
  rw [upd_same, List.set_set, hu] at h4
  have h5 := h4.setop (k := k) (x := { x with k := o.k, a := o.a, b := o.b, c := o.c }) (j := 4) (y := o) (u := .int .i64 o.d) hi0 hcv (by rw [upd_same, List.length_set]; exact hn) (by rw [upd_same]; exact hg _) (by decide) rfl
  rw [upd_same, List.set_set, hu] at h5
  exact h5
/-- one more code -/
theorem MBunG.code (h : MBunG W0 w g0 cs0 R X cvv T nc nt Wv ws cv ks tv th av) {wA w6 : World} {v cvv' : Value} {k : List Op5} (hb : Below w.heap.size w wA) (hnew : wA.ownsRow W0.heap.size 81 5 v k.length (k.flatMap gO)) (hf : ∀ b, v.ownBlock = some b → w.heap.size ≤ b)
    (hG : wA.grownBy w6 cvv.ownBlock) (hr : w6.ownsRow W0.heap.size 33 1 cvv' (nc + 1) ((List.range (nc + 1)).map (upd cv nc v))) (hgX : g0 ≠ X) (hRX : R ≠ X) (hX : W0.heap.size ≤ X) :
    MBunG W0 (w6.setCell ⟨X, 1, none⟩ cvv') g0 cs0 R X cvv' T (nc + 1) nt Wv ws (upd cv nc v) (upd ks nc k) tv th av := by
  have hA := h.step hb
  have hM := Chg.of_grown hG (M := fun k => cvv.ownBlock = some k) (fun k e => e)
  have hco := hA.mn.co
  have ok : ∀ {e sz : Nat} {u : Value} {n : Nat} {xs : List Value}, e ≠ 33 → wA.ownsRow W0.heap.size e sz u n xs → w6.ownsRow W0.heap.size e sz u n xs := fun h1 h2 => own_chg h2 hM fun k hk hm => h1 (own_ty h2 hco hk hm)
  have bk : ∀ {g t : Nat} {cs : Array Value}, t ≠ 33 → Blk wA g t cs → Blk w6 g t cs := fun h1 h2 => hM.blk h2 (own_ne_blk hco h2 (Ne.symm h1))
  have hX6 := bk (by decide) hA.hx
  have h6 := hA.below.grown hG hA.below.size (fun k hk => (own_ge hco k hk).1)
  have hm6 := h.mn.code hb hnew hf hG hr
  have hC : Chg (fun k => k = X) w6 (w6.setCell ⟨X, 1, none⟩ cvv') := (Chg.refl (fun k => k = X) w6).setCell (p := ⟨X, 1, none⟩) (fun _ => rfl) _
  have bk2 : ∀ {g t : Nat} {cs : Array Value}, t ≠ 27 → Blk w6 g t cs → Blk (w6.setCell ⟨X, 1, none⟩ cvv') g t cs := fun h1 h2 => hC.blk h2 fun e => by subst e; exact h1 (blk_ty h2 hX6)
  have ok2 : ∀ {B e sz : Nat} {u : Value} {n : Nat} {xs : List Value}, e ≠ 27 → w6.ownsRow B e sz u n xs → (w6.setCell ⟨X, 1, none⟩ cvv').ownsRow B e sz u n xs := fun h1 h2 => own_chg h2 hC fun k hk e => own_ne_blk h2 hX6 h1 (by rw [hk, e])
  refine ⟨h6.setCell (p := ⟨X, 1, none⟩) hX _, hC.blk (bk (by decide) hA.hg) hgX, hC.blk (bk (by decide) hA.hr) hRX, hX6.set_ 1 cvv', ok2 (by decide) (ok (by decide) hA.own), ⟨hm6.geT, ok2 (by decide) hm6.co, hm6.capt, bk2 (by decide) hm6.tb, fun i hi => ok2 (by decide) (hm6.os i hi), fun j hj => ?_, hm6.dist⟩⟩
  obtain ⟨r1, r2, r3⟩ := hm6.rows j hj
  exact ⟨r1, ok2 (by decide) r2, fun k c a hk hak => ok2 (by decide) (r3 k c a hk hak)⟩
theorem MBunG.threads (h : MBunG W0 w g0 cs0 R X cvv T nc nt Wv ws cv ks tv th av) {th' : Nat → List VCall} (he : ∀ j, j < nt → th j = th' j) : MBunG W0 w g0 cs0 R X cvv T nc nt Wv ws cv ks tv th' av :=
  ⟨h.below, h.hg, h.hr, h.hx, h.own, ⟨h.mn.geT, h.mn.co, h.mn.capt, h.mn.tb, h.mn.os, fun j hj => by rw [← he j hj]; exact h.mn.rows j hj, h.mn.dist⟩⟩
theorem MBunG.codes (h : MBunG W0 w g0 cs0 R X cvv T nc nt Wv ws cv ks tv th av) {ks' : Nat → List Op5} (he : ∀ j, j < nc → ks j = ks' j) : MBunG W0 w g0 cs0 R X cvv T nc nt Wv ws cv ks' tv th av :=
  ⟨h.below, h.hg, h.hr, h.hx, h.own, ⟨h.mn.geT, h.mn.co, h.mn.capt, h.mn.tb, fun i hi => by rw [← he i hi]; exact h.mn.os i hi, h.mn.rows, h.mn.dist⟩⟩
end
end Go.Proofs.YtnoinojhocicjaaDoor
