/-
  What the laws of runs share.
-/
import Derived.Test.YtljdnbdmfhcmpaaDoorRunSure
import Derived.Test.YtljdnbdmfhcmpaaDoorMachOf
import Derived.Test.YtljdnbdmfhcmpaaDoorRunSame
import Derived.Test.YtljdnbdmfhcmpaaDoorRunLaw
import Derived.Test.YtljdnbdmfhcmpaaDoorAlone
namespace Go.Proofs.YtljdnbdmfhcmpaaDoor
open Go.RowKit
set_option linter.unusedVariables false

/-- events in memory -/
structure Evs (B : Nat) (w : World) (ev : Value) (es : List (Ev × SV)) : Prop where
  row : w.ownsRow B 52 6 ev es.length (es.flatMap gE)
  told : ∀ x ∈ es, w.ownsRow B 3 1 x.2.v x.1.told.length (x.1.told.flatMap gI)
theorem Evs.below {B : Nat} {w w' : World} {ev : Value} {es : List (Ev × SV)} (h : Evs B w ev es) (hb : Below w.heap.size w w') : Evs B w' ev es := ⟨own_below h.row hb, fun x hx => own_below (h.told x hx) hb⟩
theorem Evs.at_ {B : Nat} {w : World} {A : Option Addr} {n c i : Nat} {es : List (Ev × SV)} {x : Ev × SV} (h : Evs B w (.slice A n c) es) (hi : es[i]? = some x) :
    ∃ b, A = some ⟨b, 0, none⟩ ∧ (w.cell? ⟨b, i * 6, none⟩ = some (.int .i64 (x.1.step : Int)) ∧ w.cell? ⟨b, i * 6 + 1, none⟩ = some (.int .i64 (x.1.thread : Int)) ∧ w.cell? ⟨b, i * 6 + 2, none⟩ = some (.int .i64 (x.1.call : Int)) ∧
      w.cell? ⟨b, i * 6 + 3, none⟩ = some (.bool x.1.fin) ∧ w.cell? ⟨b, i * 6 + 4, none⟩ = some (.int .i64 (x.1.err : Int)) ∧ w.cell? ⟨b, i * 6 + 5, none⟩ = some x.2.v) ∧ b < w.heap.size ∧ Sl w 1 x.2.A x.2.n (ints x.1.told) ∧ x.2.n ≤ maxLen := by
  have hl := (List.getElem?_eq_some_iff.1 hi).1
  obtain ⟨b, c', e, _, hc⟩ := own_at h.row (by omega)
  injection e with e1 e2 e3
  subst e1
  have hat : ∀ j u, j < 6 → (gE x)[j]? = some u → w.cell? ⟨b, i * 6 + j, none⟩ = some u := fun j u hj hu => hc _ _ (by rw [flatMap_at gE 6 (fun _ => rfl) es i j x hi hj, hu])
  have ht := h.told x (List.mem_of_getElem? hi)
  obtain ⟨A', c2, e', hn1, hn2⟩ := own_form ht
  have e0 := hat 0 _ (by decide) rfl
  refine ⟨b, rfl, ⟨e0, hat 1 _ (by decide) rfl, hat 2 _ (by decide) rfl, hat 3 _ (by decide) rfl, hat 4 _ (by decide) rfl, hat 5 _ (by decide) rfl⟩, World.block_lt_of_cell? w _ e0, ?_, ?_⟩
  · have e2 : x.2.n = x.1.told.length := by injection e'
    rw [← e2] at ht
    exact Sl.own ht
  · have e2 : x.2.n = x.1.told.length := by injection e'
    omega
theorem evs_same {es es' : List (Ev × SV)} {l l' : List Ev} (h : es.map (·.1) = l) (h' : es'.map (·.1) = l') (i : Nat) {x y : Ev × SV} (hx : es[i]? = some x) (hy : es'[i]? = some y) (e : l[i]? = l'[i]?) : x.1 = y.1 := by
  subst h; subst h'
  rw [List.getElem?_map, List.getElem?_map, hx, hy] at e
  exact Option.some.inj e
theorem evs_len {es : List (Ev × SV)} {l : List Ev} (h : es.map (·.1) = l) : es.length = l.length := by subst h; simp
theorem pk2_lt (x : Int) : pk x 2 < 2 := by have := pk_lt x 2 (by decide); omega
theorem mthr_ok (cs : List Int) : ∀ (k j : Nat), ∀ c ∈ mthr cs k j, c.code < 2 ∧ c.args.length ≤ 8
  | 0, j, c, h => by simp [mthr] at h
  | k + 1, j, c, h => by
    unfold mthr at h
    split at h
    · rcases List.mem_append.1 h with e | e
      · exact mthr_ok cs k j c e
      · rw [List.mem_singleton.1 e]
        exact ⟨pk2_lt _, by simp [mcall]⟩
    · exact mthr_ok cs k j c h
def machT (ls ms : List Op5) (th : Nat → List VCall) : Mach := ⟨List.replicate 8 0, [codeOf ls 12, codeOf ms 12], [th 0, th 1, th 2]⟩
theorem ML.mach {B : Nat} {w : World} {Wb Cb T : Nat} {c1 c2 : Value} {tv : Nat → Value} {ls ms : List Op5} {th : Nat → List VCall} {av : Nat → List SV} (h : ML B w Wb Cb T c1 c2 tv (codeOf ls 12) (codeOf ms 12) th av)
    (hth : ∀ j, j < 3 → (th j).length ≤ 12 ∧ ∀ c ∈ th j, c.code < 2 ∧ c.args.length ≤ 8) :
    MachAt w (some ⟨Cb, 0, none⟩) 2 (some ⟨T, 0, none⟩) 3 (machT ls ms th) ∧ Sl w 1 (some ⟨Wb, 0, none⟩) 8 (ints (machT ls ms th).words) :=
  ⟨h.at_ (by rw [codeOf_len]; omega) (by rw [codeOf_len]; omega) (codeOf_sh ls 12) (codeOf_sh ms 12) (fun j hj => ⟨by have := (hth j hj).1; omega, (hth j hj).2⟩), h.words⟩
theorem mthr_th (cs : List Int) : ∀ j, j < 3 → (mthr cs (min 12 cs.length) j).length ≤ 12 ∧ ∀ c ∈ mthr cs (min 12 cs.length) j, c.code < 2 ∧ c.args.length ≤ 8 :=
  fun j _ => ⟨by have := mthr_len cs (min 12 cs.length) j; omega, mthr_ok cs _ j⟩
theorem vdo_wlen (o : Op5) (t : Th) (ws : List Int) : (vdo o t ws).2.length = ws.length := by
  unfold vdo vother vset
  simp only [apply_ite Prod.snd, apply_ite List.length, List.length_set, ite_self]
theorem vstep_wlen (code : List Op5) (t : Th) (ws : List Int) : (vstep code t ws).2.length = ws.length := by
  unfold vstep
  split
  · rfl
  · split
    · rfl
    · exact vdo_wlen _ _ _
theorem play_words (m : Mach) (l : List Nat) : (play m l).words.length = m.words.length := by
  have hst : ∀ (code : List Op5) (t : Th) (ws : List Int), (vstep code t ws).2.length = ws.length := vstep_wlen
  have h1 : ∀ (i n : Nat) (s : PS), (pstep m i n s).words.length = s.words.length := by
    intro i n s
    unfold pstep pact
    split
    · split
      · rfl
      · split <;> exact hst _ _ _
    · rfl
  have h2 : ∀ (l : List Nat) (i : Nat) (s : PS), (prun m i l s).words.length = s.words.length := by
    intro l
    induction l with
    | nil => intro i s; rfl
    | cons n l ih => intro i s; rw [prun, ih, h1]
  exact h2 l 0 (pinit m)
theorem own_keep {w wA w' : World} {B e sz : Nat} {v u : Value} {n : Nat} {xs : List Value} (ho : w.ownsRow B e sz v n xs) (hb : Below w.heap.size w wA) (hG : wA.grownBy w' u.ownBlock) (ha : Apt v u) : w'.ownsRow B e sz v n xs :=
  own_chg (own_below ho hb) (Chg.of_grown hG (M := fun k => u.ownBlock = some k) (fun k e => e)) (fun k hk hm => ha k hk hm)
theorem apt_new {w : World} {B e sz g : Nat} {v u u' : Value} {n : Nat} {xs : List Value} (ho : w.ownsRow B e sz v n xs) (ha : Apt v u) (hg : w.heap.size ≤ g) (hu : u'.ownBlock = u.ownBlock ∨ u'.ownBlock = some g) : Apt v u' := by
  intro b hb hb'
  rcases hu with h | h
  · rw [h] at hb'; exact ha b hb hb'
  · rw [h] at hb'; injection hb' with hb'; subst hb'
    have := (own_ge ho _ hb).2
    omega
theorem wpList_appC {P : Program} {w : World} {t e : TypeId} {sz bytes : Nat} (E : Elm P t e sz bytes) {α : Type} {g : α → List Value} (hg : ∀ x, ∀ u ∈ g x, u.oneCell' = true) {ops : Array Oper} {rest : List Oper} {o : Oper} {a : Act} {Q : Exit → Act → World → Prop} (hw : Region.wanted o (yielded ops a.tmps) = true) (s x : Operand)
    (ho : o.op = .call { callee := .builtin .append, args := #[s, x], argTypes := #[t, t] })
    {base : Nat} (v : Value) (l : List α) (hs : a.eval s = v) (hown : w.ownsRow base e sz v l.length (l.flatMap g))
    {A : Option Addr} {n c : Nat} (m y : List α) (hy : Hid (l ++ m = y)) (hx : a.eval x = .slice A n c) (hr : Sl w sz A n (m.flatMap g)) (hn : m.length = n)
    (h63 : y.length ≤ maxLen) (hbytes : y.length * bytes ≤ 140737488355328) (hbase : base ≤ w.heap.size)
    (h : ∀ A' c' w', y.length ≤ c' → c' ≤ maxLen → Hid (w'.ownsRow base e sz (.slice A' y.length c') y.length (y.flatMap g)) → Hid (w.grownBy w' v.ownBlock) → Hid ((Value.slice A' y.length c').ownBlock = v.ownBlock ∨ (Value.slice A' y.length c').ownBlock = some w.heap.size) → wpList P ops Q rest (a.put o.dst (.slice A' y.length c')) w') : wpList P ops Q (o :: rest) a w := by
  have hy' : l ++ m = y := hy
  subst hy'
  subst hn
  rw [List.length_append] at h63 hbytes
  refine wpList_app E hw s x ho v hs hown hx hr (flat_one g hg m) h63 hbytes hbase fun v' w' h1 h2 h3 => ?_
  rw [← List.flatMap_append, ← List.length_append] at h1
  obtain ⟨A', c', rfl, hc1, hc2⟩ := own_form h1
  exact h A' c' w' hc1 hc2 h1 h2 h3
end Go.Proofs.YtljdnbdmfhcmpaaDoor
