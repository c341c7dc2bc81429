/-
  A run in memory.
-/
import Derived.Test.YtabmkjokeeakdaaDoorRunMath
namespace Go.Proofs.YtabmkjokeeakdaaDoor
open Go.RowKit
set_option linter.unusedVariables false

/-- a slice's header -/
structure SV where
  A : Option Addr
  n : Nat
  c : Nat
abbrev SV.v (x : SV) : Value := .slice x.A x.n x.c
abbrev gE : Ev × SV → List Value := fun x => [.int .i64 (x.1.step : Int), .int .i64 (x.1.thread : Int), .int .i64 (x.1.call : Int), .bool x.1.fin, .int .i64 (x.1.err : Int), x.2.v]
abbrev Pb (w : World) (g : Nat) (cv : Value) (next : Nat) (o : Option Nat) : Prop := Blk w g 92 #[cv, .int .i64 (next : Int), .pointer (o.map fun h => ⟨h, 0, none⟩)]
def curH (p : PT) (h : Nat) : Option Nat := if p.cur.isSome then some h else none
/-- the code of a call that is under way, and its thread in memory; the code's cells were there at the world w0 -/
def CurAt (B : Nat) (w0 w : World) (m : Mach) (h : Nat) (tv : Value) (ci : Nat) (t : Th) : Prop :=
  B ≤ h ∧ ∃ A n c code, m.codes[ci]? = some code ∧ code.length = n ∧ n ≤ 200 ∧ (∀ o ∈ code, OpSh n o) ∧ Sl w0 5 A n (code.flatMap gO) ∧ VI code t ∧ TH B w h (.slice A n c) t tv
/-- a row that is apart from another -/
def Apt (u v : Value) : Prop := ∀ b, u.ownBlock = some b → v.ownBlock ≠ some b
theorem Apt.symm {u v : Value} (h : Apt u v) : Apt v u := fun b hb hu => h b hu hb
structure PM (B : Nat) (w0 w : World) (m : Mach) (G Hf : Nat → Nat) (Cv Tv : Nat → Value) (wv pv : Value) (nt : Nat) (es : List (Ev × SV)) (ev : Value) (s : PS) : Prop where
  size : B ≤ w.heap.size
  len : s.ths.length = nt
  ths : ∀ j p, s.ths[j]? = some p → B ≤ G j ∧ Pb w (G j) (Cv j) p.next (curH p (Hf j))
  cur : ∀ j p ci t, s.ths[j]? = some p → p.cur = some (ci, t) → CurAt B w0 w m (Hf j) (Tv j) ci t
  gdist : ∀ j k, j < nt → k < nt → j ≠ k → G j ≠ G k
  hdist : ∀ j k p q, s.ths[j]? = some p → s.ths[k]? = some q → p.cur.isSome = true → q.cur.isSome = true → j ≠ k → Hf j ≠ Hf k
  tdist : ∀ j k, j ≠ k → Apt (Tv j) (Tv k)
  twords : ∀ j, Apt (Tv j) wv
  idle : ∀ j, (∀ p, s.ths[j]? = some p → p.cur = none) → (Tv j).ownBlock = none
  told : ∀ x ∈ es, w.ownsRow B 3 1 x.2.v x.1.told.length (x.1.told.flatMap gI) ∧ Apt x.2.v wv ∧ ∀ j, Apt x.2.v (Tv j)
  evs : es.map (·.1) = s.evs
  erow : w.ownsRow B 68 6 ev es.length (es.flatMap gE)
  prow : w.ownsRow B 89 1 pv nt ((List.range nt).map fun j => Value.pointer (some ⟨G j, 0, none⟩))
  words : WS B w wv s.words
/-- what changes where thread n acts -/
def PMod (G Hf : Nat → Nat) (Tv : Nat → Value) (wv ev : Value) (n : Nat) (run : Bool) (k : Nat) : Prop :=
  k = G n ∨ (run = true ∧ k = Hf n) ∨ (Tv n).ownBlock = some k ∨ wv.ownBlock = some k ∨ ev.ownBlock = some k
def upd {α : Type} (f : Nat → α) (n : Nat) (x : α) : Nat → α := fun j => if j = n then x else f j
theorem upd_same {α : Type} (f : Nat → α) (n : Nat) (x : α) : upd f n x n = x := by unfold upd; rw [if_pos rfl]
theorem upd_ne {α : Type} (f : Nat → α) (n j : Nat) (x : α) (h : j ≠ n) : upd f n x j = f j := by unfold upd; rw [if_neg h]
theorem blk_ty {w : World} {g : Nat} {t t' : TypeId} {cs cs' : Array Value} (h : Blk w g t cs) (h' : Blk w g t' cs') : t = t' := by
  unfold Blk at h h'; rw [h] at h'; injection h' with h'; injection h'
theorem own_ty {w : World} {B B' e e' sz sz' n n' b : Nat} {v v' : Value} {xs xs' : List Value} (h : w.ownsRow B e sz v n xs) (h' : w.ownsRow B' e' sz' v' n' xs') (hv : v.ownBlock = some b) (hv' : v'.ownBlock = some b) : e = e' := by
  rcases h.2 with ⟨rfl, _⟩ | ⟨g, cap, cur, rfl, _, hh, _⟩
  · simp [Value.ownBlock] at hv
  · obtain rfl : g = b := by simpa [Value.ownBlock] using hv
    rcases h'.2 with ⟨rfl, _⟩ | ⟨g', cap', cur', rfl, _, hh', _⟩
    · simp [Value.ownBlock] at hv'
    · obtain rfl : g' = g := by simpa [Value.ownBlock] using hv'
      rw [hh] at hh'; injection hh' with hh'; injection hh'
section
variable {B : Nat} {w0 w w' : World} {m : Mach} {G Hf : Nat → Nat} {Cv Tv : Nat → Value} {wv pv ev : Value} {nt : Nat} {es : List (Ev × SV)} {s : PS}
/-- a row of what a thread under way has told -/
theorem PM.tv (H : PM B w0 w m G Hf Cv Tv wv pv nt es ev s) {j b : Nat} (hb : (Tv j).ownBlock = some b) : ∃ p ci t, s.ths[j]? = some p ∧ p.cur = some (ci, t) ∧ CurAt B w0 w m (Hf j) (Tv j) ci t := by
  cases hp : s.ths[j]? with
  | none => rw [H.idle j (fun p h => by rw [hp] at h; cases h)] at hb; cases hb
  | some p =>
    cases hc : p.cur with
    | none => rw [H.idle j (fun q h => by rw [hp] at h; injection h with h; rw [← h]; exact hc)] at hb; cases hb
    | some x => exact ⟨p, x.1, x.2, rfl, hc, H.cur j p x.1 x.2 hp hc⟩
theorem CurAt.th {h ci : Nat} {tv : Value} {t : Th} (hc : CurAt B w0 w m h tv ci t) : ∃ cv, TH B w h cv t tv := by
  obtain ⟨_, A, n, c, code, _, _, _, _, _, _, hT⟩ := hc
  exact ⟨_, hT⟩
theorem CurAt.chg {M : Nat → Prop} {h ci : Nat} {tv : Value} {t : Th} (hc : CurAt B w0 w m h tv ci t) (hw : Chg M w w') (h1 : ¬ M h) (h2 : ∀ k, tv.ownBlock = some k → ¬ M k) : CurAt B w0 w' m h tv ci t := by
  obtain ⟨a, A, n, c, code, b1, b2, b3, b4, b5, b6, hT⟩ := hc
  exact ⟨a, A, n, c, code, b1, b2, b3, b4, b5, b6, hT.chg hw h1 h2⟩
/-- a block of another type than all that change -/
theorem PM.away (H : PM B w0 w m G Hf Cv Tv wv pv nt es ev s) {n : Nat} {p : PT} (hn : s.ths[n]? = some p) {k : Nat} (hm : PMod G Hf Tv wv ev n p.cur.isSome k) :
    (∃ cs, Blk w k 92 cs ∧ k = G n) ∨ (∃ cs, Blk w k 97 cs ∧ p.cur.isSome = true ∧ k = Hf n) ∨ ((Tv n).ownBlock = some k ∧ ∃ q xs, w.ownsRow B 3 1 (Tv n) q xs) ∨ wv.ownBlock = some k ∨ ev.ownBlock = some k := by
  rcases hm with e | ⟨e1, e2⟩ | e | e | e
  · exact .inl ⟨_, by rw [e]; exact (H.ths n p hn).2, e⟩
  · obtain ⟨⟨ci, t⟩, hcu⟩ := Option.isSome_iff_exists.1 e1
    obtain ⟨cv, hT⟩ := (H.cur n p ci t hn hcu).th
    exact .inr (.inl ⟨_, by rw [e2]; exact hT.blk, e1, e2⟩)
  · obtain ⟨_, ci, t, _, _, hcu⟩ := H.tv e
    obtain ⟨cv, hT⟩ := hcu.th
    exact .inr (.inr (.inl ⟨e, _, _, hT.told⟩))
  · exact .inr (.inr (.inr (.inl e)))
  · exact .inr (.inr (.inr (.inr e)))
/-- a row of numbers that is apart from the thread's row and the words is not changed -/
theorem PM.rowAway (H : PM B w0 w m G Hf Cv Tv wv pv nt es ev s) {n : Nat} {p : PT} (hn : s.ths[n]? = some p) {u : Value} {q : Nat} {xs : List Value} (hu : w.ownsRow B 3 1 u q xs) (h1 : Apt u (Tv n)) (h2 : Apt u wv) {k : Nat} (hk : u.ownBlock = some k) : ¬ PMod G Hf Tv wv ev n p.cur.isSome k := by
  intro hm
  rcases H.away hn hm with ⟨cs, hb, _⟩ | ⟨cs, hb, _⟩ | ⟨e, _⟩ | e | e
  · exact own_ne_blk hu hb (by decide) hk
  · exact own_ne_blk hu hb (by decide) hk
  · exact h1 k hk e
  · exact h2 k hk e
  · exact absurd (own_ty hu H.erow hk e) (by decide)
theorem curH_some {p : PT} {h : Nat} (hp : p.cur.isSome = true) : curH p h = some h := by unfold curH; rw [if_pos hp]
end
theorem PM.upd_ {B : Nat} {w0 w w' : World} {m : Mach} {G Hf : Nat → Nat} {Cv Tv : Nat → Value} {wv pv ev : Value} {nt : Nat} {es : List (Ev × SV)} {s : PS} (H : PM B w0 w m G Hf Cv Tv wv pv nt es ev s)
    {n : Nat} {p p' : PT} (hn : s.ths[n]? = some p) (h' : Nat) (tv' ev' : Value) (ws' : List Int) (new : List (Ev × SV))
    (hc : Chg (PMod G Hf Tv wv ev n p.cur.isSome) w w')
    (hb : Pb w' (G n) (Cv n) p'.next (curH p' h'))
    (hcur : ∀ ci t, p'.cur = some (ci, t) → CurAt B w0 w' m h' tv' ci t)
    (hh : p'.cur.isSome = true → (p.cur.isSome = true ∧ h' = Hf n) ∨ w.heap.size ≤ h')
    (ht : tv'.ownBlock = none ∨ (p'.cur.isSome = true ∧ (tv'.ownBlock = (Tv n).ownBlock ∨ ∃ k, tv'.ownBlock = some k ∧ w.heap.size ≤ k) ∧ new = []))
    (hw : WS B w' wv ws') (he : w'.ownsRow B 68 6 ev' (es ++ new).length ((es ++ new).flatMap gE))
    (hnew : ∀ x ∈ new, w'.ownsRow B 3 1 x.2.v x.1.told.length (x.1.told.flatMap gI) ∧ (x.2.v.ownBlock = none ∨ x.2.v.ownBlock = (Tv n).ownBlock)) :
    PM B w0 w' m G (upd Hf n h') Cv (upd Tv n tv') wv pv nt (es ++ new) ev' { ths := s.ths.set n p', words := ws', evs := s.evs ++ new.map (·.1) } := by
  have hnl : n < s.ths.length := (List.getElem?_eq_some_iff.1 hn).1
  have hget : ∀ j, j ≠ n → (s.ths.set n p')[j]? = s.ths[j]? := fun j hj => List.getElem?_set_ne (fun e => hj e.symm)
  have hgetn : (s.ths.set n p')[n]? = some p' := by rw [List.getElem?_set_self hnl]
  have hlt : ∀ {j q}, s.ths[j]? = some q → j < nt := fun hq => by rw [← H.len]; exact (List.getElem?_eq_some_iff.1 hq).1
  have rowlt : ∀ {u : Value} {q : Nat} {xs : List Value} {e sz : Nat}, w.ownsRow B e sz u q xs → ∀ k, u.ownBlock = some k → k < w.heap.size := fun h k hk => (own_ge h k hk).2
  have tvlt : ∀ j k, (Tv j).ownBlock = some k → k < w.heap.size := fun j k hk => by
    obtain ⟨_, ci, t, _, _, hcu⟩ := H.tv hk
    obtain ⟨cv, hT⟩ := hcu.th
    exact rowlt hT.told k hk
  have aptT : ∀ (u : Value), (∀ k, u.ownBlock = some k → k < w.heap.size) → Apt u (Tv n) → Apt u tv' := by
    intro u hu h1 b hb1 hb2
    rcases ht with e | ⟨_, e | ⟨k, e, hk⟩, _⟩
    · rw [e] at hb2; cases hb2
    · exact h1 b hb1 (by rw [← e]; exact hb2)
    · rw [e] at hb2; injection hb2 with hb2
      have := hu b hb1; omega
  refine ⟨Nat.le_trans H.size hc.size, by rw [List.length_set]; exact H.len, ?_, ?_, H.gdist, ?_, ?_, ?_, ?_, ?_, ?_, he, ?_, hw⟩
  · intro j q hq
    by_cases hj : j = n
    · subst hj
      rw [hgetn] at hq; injection hq with hq; subst hq
      rw [upd_same]
      exact ⟨(H.ths _ p hn).1, hb⟩
    · rw [hget j hj] at hq
      rw [upd_ne _ _ _ _ hj]
      obtain ⟨h1, h2⟩ := H.ths j q hq
      refine ⟨h1, hc.blk h2 fun hm => ?_⟩
      rcases H.away hn hm with ⟨cs, hb1, e⟩ | ⟨cs, hb1, _⟩ | ⟨e, _, _, hr⟩ | e | e
      · exact H.gdist j n (hlt hq) (hlt hn) hj e
      · exact absurd (blk_ty h2 hb1) (by decide)
      · exact own_ne_blk hr h2 (by decide) e
      · exact own_ne_blk H.words h2 (by decide) e
      · exact own_ne_blk H.erow h2 (by decide) e
  · intro j q ci t hq hcq
    by_cases hj : j = n
    · subst hj
      rw [hgetn] at hq; injection hq with hq; subst hq
      rw [upd_same, upd_same]
      exact hcur ci t hcq
    · rw [hget j hj] at hq
      rw [upd_ne _ _ _ _ hj, upd_ne _ _ _ _ hj]
      have hcu := H.cur j q ci t hq hcq
      obtain ⟨cv, hT⟩ := hcu.th
      refine hcu.chg hc (fun hm => ?_) (fun k hk => H.rowAway hn hT.told (H.tdist j n hj) (H.twords j) hk)
      rcases H.away hn hm with ⟨cs, hb1, e⟩ | ⟨cs, hb1, hp1, e⟩ | ⟨e, _, _, hr⟩ | e | e
      · exact absurd (blk_ty hT.blk hb1) (by decide)
      · exact H.hdist j n q p hq hn (by rw [hcq]; rfl) hp1 hj e
      · exact own_ne_blk hr hT.blk (by decide) e
      · exact own_ne_blk H.words hT.blk (by decide) e
      · exact own_ne_blk H.erow hT.blk (by decide) e
  · have K : ∀ k r, k ≠ n → s.ths[k]? = some r → r.cur.isSome = true → p'.cur.isSome = true → h' ≠ Hf k := by
      intro k r hk hr hrc hpc e
      rcases hh hpc with ⟨h1, h2⟩ | h1
      · exact H.hdist n k p r hn hr h1 hrc (fun e => hk e.symm) (by rw [← h2]; exact e)
      · obtain ⟨⟨ci, t⟩, hcu⟩ := Option.isSome_iff_exists.1 hrc
        obtain ⟨cv, hT⟩ := (H.cur k r ci t hr hcu).th
        have := hT.blk.lt
        omega
    intro j k q r hq hr hqc hrc hjk
    by_cases hj : j = n
    · subst hj
      have hk : k ≠ j := fun e => hjk e.symm
      rw [hgetn] at hq; injection hq with hq; subst hq
      rw [hget k hk] at hr
      rw [upd_same, upd_ne _ _ _ _ hk]
      exact K k r hk hr hrc hqc
    · rw [hget j hj] at hq
      rw [upd_ne _ _ _ _ hj]
      by_cases hk : k = n
      · subst hk
        rw [hgetn] at hr; injection hr with hr; subst hr
        rw [upd_same]
        exact fun e => K j q hj hq hqc hrc e.symm
      · rw [hget k hk] at hr
        rw [upd_ne _ _ _ _ hk]
        exact H.hdist j k q r hq hr hqc hrc hjk
  · intro j k hjk
    by_cases hj : j = n
    · subst hj
      have hk : k ≠ j := fun e => hjk e.symm
      rw [upd_same, upd_ne _ _ _ _ hk]
      exact (aptT (Tv k) (tvlt k) (H.tdist k j hk)).symm
    · rw [upd_ne _ _ _ _ hj]
      by_cases hk : k = n
      · subst hk
        rw [upd_same]
        exact aptT (Tv j) (tvlt j) (H.tdist j k hj)
      · rw [upd_ne _ _ _ _ hk]
        exact H.tdist j k hjk
  · intro j
    by_cases hj : j = n
    · subst hj
      rw [upd_same]
      exact (aptT wv (fun k hk => rowlt H.words k hk) (H.twords j).symm).symm
    · rw [upd_ne _ _ _ _ hj]
      exact H.twords j
  · intro j hj1
    by_cases hj : j = n
    · subst hj
      rw [upd_same]
      have := hj1 p' hgetn
      rcases ht with e | ⟨e, _⟩
      · exact e
      · rw [this] at e; cases e
    · rw [upd_ne _ _ _ _ hj]
      exact H.idle j fun q hq => hj1 q (by rw [hget j hj]; exact hq)
  · intro x hx
    rcases List.mem_append.1 hx with h | h
    · obtain ⟨h1, h2, h3⟩ := H.told x h
      refine ⟨own_chg h1 hc (fun k hk => H.rowAway hn h1 (h3 n) h2 hk), h2, fun j => ?_⟩
      by_cases hj : j = n
      · subst hj
        rw [upd_same]
        exact aptT x.2.v (fun k hk => rowlt h1 k hk) (h3 j)
      · rw [upd_ne _ _ _ _ hj]; exact h3 j
    · obtain ⟨h1, h2⟩ := hnew x h
      have htv : tv'.ownBlock = none := by
        rcases ht with e | ⟨_, _, e⟩
        · exact e
        · rw [e] at h; cases h
      refine ⟨h1, fun b hb1 hb2 => ?_, fun j b hb1 hb2 => ?_⟩
      · rcases h2 with e | e
        · rw [e] at hb1; cases hb1
        · exact H.twords n b (by rw [← e]; exact hb1) hb2
      · by_cases hj : j = n
        · subst hj
          rw [upd_same, htv] at hb2; cases hb2
        · rw [upd_ne _ _ _ _ hj] at hb2
          rcases h2 with e | e
          · rw [e] at hb1; cases hb1
          · exact H.tdist n j (fun e => hj e.symm) b (by rw [← e]; exact hb1) hb2
  · rw [List.map_append, H.evs]
  · refine own_chg H.prow hc fun k hk hm => ?_
    rcases H.away hn hm with ⟨cs, hb1, e⟩ | ⟨cs, hb1, _⟩ | ⟨e, _, _, hr⟩ | e | e
    · exact own_ne_blk H.prow hb1 (by decide) hk
    · exact own_ne_blk H.prow hb1 (by decide) hk
    · exact absurd (own_ty H.prow hr hk e) (by decide)
    · exact absurd (own_ty H.prow H.words hk e) (by decide)
    · exact absurd (own_ty H.prow H.erow hk e) (by decide)
end Go.Proofs.YtabmkjokeeakdaaDoor
