/-
  A run in memory: a call begins, a thread acts, a call ends.
-/
import Derived.Test.YtabmkjokeeakdaaDoorRunMem
namespace Go.Proofs.YtabmkjokeeakdaaDoor
open Go.RowKit
set_option linter.unusedVariables false

theorem wpList_appB {P : Program} {w : World} {t e : TypeId} {sz bytes : Nat} (E : Elm P t e sz bytes) {α : Type} {g : α → List Value} (hg : ∀ x, ∀ u ∈ g x, u.oneCell' = true) {ops : Array Oper} {rest : List Oper} {o : Oper} {a : Act} {Q : Exit → Act → World → Prop} (hw : Region.wanted o (yielded ops a.tmps) = true) (s x : Operand)
    (ho : o.op = .call { callee := .builtin .append, args := #[s, x], argTypes := #[t, t] })
    {base : Nat} (v : Value) (l : List α) (hs : a.eval s = v) (hown : w.ownsRow base e sz v l.length (l.flatMap g))
    {A : Option Addr} {n c : Nat} (m y : List α) (hy : Hid (l ++ m = y)) (hx : a.eval x = .slice A n c) (hr : Sl w sz A n (m.flatMap g)) (hn : m.length = n)
    (h63 : y.length ≤ maxLen) (hbytes : y.length * bytes ≤ 140737488355328) (hbase : base ≤ w.heap.size)
    (h : ∀ A' c' w', y.length ≤ c' → c' ≤ maxLen → Hid (w'.ownsRow base e sz (.slice A' y.length c') y.length (y.flatMap g)) → Hid (w.grownBy w' v.ownBlock) → wpList P ops Q rest (a.put o.dst (.slice A' y.length c')) w') : wpList P ops Q (o :: rest) a w := by
  have hy' : l ++ m = y := hy
  subst hy'
  rw [List.length_append] at h63 hbytes
  subst hn
  refine wpList_app E hw s x ho v hs hown hx hr (flat_one g hg m) h63 hbytes hbase fun v' w' h1 h2 h3 => ?_
  rw [← List.flatMap_append, ← List.length_append] at h1
  obtain ⟨A', c', rfl, hc1, hc2⟩ := own_form h1
  exact h A' c' w' hc1 hc2 h1 h2
/-- the machine's own block stays, and so does what was there ahead of the run -/
structure RS (w : World) (mb : Nat) (mc : Array Value) (wr : World) (m : Mach) (G Hf : Nat → Nat) (Cv Tv : Nat → Value) (wv pv : Value) (nt : Nat) (es : List (Ev × SV)) (ev : Value) (s : PS) : Prop where
  pm : PM w.heap.size w wr m G Hf Cv Tv wv pv nt es ev s
  blk : Blk wr mb 29 mc
  below : Below w.heap.size w wr
section
variable {w wr w' : World} {mb : Nat} {mc : Array Value} {m : Mach} {G Hf : Nat → Nat} {Cv Tv : Nat → Value} {wv pv ev : Value} {nt : Nat} {es : List (Ev × SV)} {s : PS}
theorem RS.chg (H : RS w mb mc wr m G Hf Cv Tv wv pv nt es ev s) {n : Nat} {p : PT} (hn : s.ths[n]? = some p)
    (hc : Chg (PMod G Hf Tv wv ev n p.cur.isSome) wr w') : Blk w' mb 29 mc ∧ Below w.heap.size w w' := by
  have A := fun k (hm : PMod G Hf Tv wv ev n p.cur.isSome k) => H.pm.away hn hm
  refine ⟨hc.blk H.blk fun hm => ?_, H.below.trans (hc.below (fun k hm => ?_) H.below.size)⟩
  · rcases A _ hm with ⟨cs, hb, _⟩ | ⟨cs, hb, _⟩ | ⟨e, _, _, hr⟩ | e | e
    · exact absurd (blk_ty H.blk hb) (by decide)
    · exact absurd (blk_ty H.blk hb) (by decide)
    · exact own_ne_blk hr H.blk (by decide) e
    · exact own_ne_blk H.pm.words H.blk (by decide) e
    · exact own_ne_blk H.pm.erow H.blk (by decide) e
  · rcases A _ hm with ⟨cs, _, e⟩ | ⟨cs, _, hp, e⟩ | ⟨e, _, _, hr⟩ | e | e
    · rw [e]; exact (H.pm.ths n p hn).1
    · rw [e]
      obtain ⟨⟨ci, t⟩, hcu⟩ := Option.isSome_iff_exists.1 hp
      exact (H.pm.cur n p ci t hn hcu).1
    · exact (own_ge hr k e).1
    · exact (own_ge H.pm.words k e).1
    · exact (own_ge H.pm.erow k e).1
theorem RS.drew (H : RS w mb mc wr m G Hf Cv Tv wv pv nt es ev s) : RS w mb mc wr.drew m G Hf Cv Tv wv pv nt es ev s :=
  ⟨⟨H.pm.size, H.pm.len, H.pm.ths, fun j p ci t h1 h2 => by obtain ⟨a, A, n, c, code, b1, b2, b3, b4, b5, b6, hT⟩ := H.pm.cur j p ci t h1 h2; exact ⟨a, A, n, c, code, b1, b2, b3, b4, b5, b6, ⟨hT.blk, hT.told, hT.len⟩⟩, H.pm.gdist, H.pm.hdist, H.pm.tdist, H.pm.twords, H.pm.idle, H.pm.told, H.pm.evs, H.pm.erow, H.pm.prow, H.pm.words⟩, H.blk, H.below.drew⟩
/-- the state where thread n has begun its next call, if it was in none -/
def sbeg (m : Mach) (step n : Nat) (calls : List VCall) (p : PT) (s : PS) : PS := { ths := s.ths.set n (pbeg m step n calls p).1, words := s.words, evs := s.evs ++ (pbeg m step n calls p).2 }
theorem set_self {α : Type} {l : List α} {n : Nat} {p : α} (h : l[n]? = some p) : l.set n p = l := by
  refine List.ext_getElem? fun j => ?_
  rw [List.getElem?_set]
  split
  · rename_i e; subst e
    rw [if_pos (List.getElem?_eq_some_iff.1 h).1, h]
  · rfl
theorem sbeg_same (m : Mach) (step n : Nat) (calls : List VCall) (p : PT) (s : PS) (hn : s.ths[n]? = some p) (h : pbeg m step n calls p = (p, [])) : sbeg m step n calls p s = s := by
  unfold sbeg
  rw [h]
  simp only [set_self hn, List.append_nil]
theorem pstep_beg (m : Mach) (step n : Nat) (calls : List VCall) (p : PT) (s : PS) (hn : s.ths[n]? = some p) (hc : m.threads[n]? = some calls) : pstep m step n s = pact m step n (pbeg m step n calls p) s := by
  unfold pstep
  rw [hn, hc]
theorem pstep_most (m : Mach) (step n : Nat) (s : PS) : (pstep m step n s).evs.length ≤ s.evs.length + 2 := by
  have hb : ∀ calls p, (pbeg m step n calls p).2.length ≤ 1 := by
    intro calls p
    unfold pbeg
    split
    · simp
    · split <;> simp
  unfold pstep
  split
  · rename_i p calls _ _
    have := hb calls p
    unfold pact
    split
    · omega
    · split
      · simp only [List.length_append, List.length_singleton]; omega
      · simp only [List.length_append]; omega
  · omega
theorem prun_most (m : Mach) : ∀ (l : List Nat) (i : Nat) (s : PS), (prun m i l s).evs.length ≤ s.evs.length + 2 * l.length
  | [], i, s => by simp [prun]
  | n :: l, i, s => by
    rw [prun]
    have h1 := prun_most m l (i + 1) (pstep m i n s)
    have h2 := pstep_most m i n s
    rw [List.length_cons]; omega
theorem PM.evlen {B : Nat} {w0 : World} (H : PM B w0 w m G Hf Cv Tv wv pv nt es ev s) : es.length = s.evs.length := by rw [← H.evs, List.length_map]
abbrev evB (k n c : Nat) : Ev × SV := ((⟨k, n, c, false, 0, []⟩ : Ev), (⟨none, 0, 0⟩ : SV))
/-- a call begins -/
theorem RS.begin (H : RS w mb mc wr m G Hf Cv Tv wv pv nt es ev s) {n k : Nat} {p : PT} {calls : List VCall} {c0 : VCall} {code : List Op5} {Ao : Option Addr} {no co h : Nat} {wB w6 : World} {ev' : Value} (o : Obj)
    (hn : s.ths[n]? = some p) (hcur : p.cur = none) (hc0 : calls[p.next]? = some c0) (hcode : m.codes[c0.code]? = some code) (hlen : code.length = no) (h200 : no ≤ 200) (hsh : ∀ o ∈ code, OpSh no o) (hsl : Sl w 5 Ao no (code.flatMap gO)) (hargs : c0.args.length ≤ 24)
    (BB : Below wr.heap.size wr wB) (HH : wr.heap.size ≤ h) (TB : Tb wB h (.slice Ao no co) (vbegin no c0.args).regs 0 (.slice none 0 0) 0 (vbegin no c0.args).over)
    (hG : ((wB.setCell ⟨G n, 2, none⟩ (.pointer (some ⟨h, 0, none⟩))).alloc o).grownBy w6 ev.ownBlock)
    (hE : w6.ownsRow w.heap.size 68 6 ev' (es ++ [evB k n p.next]).length ((es ++ [evB k n p.next]).flatMap gE)) :
    RS w mb mc (w6.setCell ⟨G n, 1, none⟩ (.int .i64 ((p.next : Int) + 1))) m G (upd Hf n h) Cv (upd Tv n (.slice none 0 0)) wv pv nt (es ++ [evB k n p.next]) ev' (sbeg m k n calls p s) := by
  have hpb : pbeg m k n calls p = (⟨p.next + 1, some (c0.code, vbegin (m.codes.getD c0.code []).length c0.args)⟩, [⟨k, n, p.next, false, 0, []⟩]) := by
    unfold pbeg; rw [hcur]; simp only; rw [hc0]
  have hcl : (m.codes.getD c0.code []).length = no := by rw [List.getD_eq_getElem?_getD, hcode]; exact hlen
  rw [hcl] at hpb
  obtain ⟨hgB, hg⟩ := H.pm.ths n p hn
  have hgl := hg.lt
  -- what changes
  have c1 : Chg (fun k => k = G n ∨ ev.ownBlock = some k) wr wB := Chg.of_below BB (fun k h1 h2 => absurd h1 (by omega))
  have c2 : Chg (fun k => k = G n ∨ ev.ownBlock = some k) wr ((wB.setCell ⟨G n, 2, none⟩ (.pointer (some ⟨h, 0, none⟩))).alloc o) := (c1.setCell (p := ⟨G n, 2, none⟩) (fun _ => .inl rfl) _).alloc o
  have c3 : Chg (fun k => k = G n ∨ ev.ownBlock = some k) wr w6 := c2.trans (Chg.of_grown hG (M := fun k => ev.ownBlock = some k) (fun k e => e)) (fun _ _ e => .inr e)
  have c4 : Chg (fun k => k = G n ∨ ev.ownBlock = some k) wr (w6.setCell ⟨G n, 1, none⟩ (.int .i64 ((p.next : Int) + 1))) := c3.setCell (p := ⟨G n, 1, none⟩) (fun _ => .inl rfl) _
  have cP : Chg (PMod G Hf Tv wv ev n p.cur.isSome) wr (w6.setCell ⟨G n, 1, none⟩ (.int .i64 ((p.next : Int) + 1))) := c4.wider fun k e => by
    rcases e with e | e
    · exact .inl e
    · exact .inr (.inr (.inr (.inr e)))
  have cG := Chg.of_grown hG (M := fun k => ev.ownBlock = some k) (fun k e => e)
  -- the row of events was there in the world that grew
  have hER : ((wB.setCell ⟨G n, 2, none⟩ (.pointer (some ⟨h, 0, none⟩))).alloc o).ownsRow w.heap.size 68 6 ev es.length (es.flatMap gE) := by
    have d1 : Chg (fun k => k = G n) wr ((wB.setCell ⟨G n, 2, none⟩ (.pointer (some ⟨h, 0, none⟩))).alloc o) := ((Chg.of_below (M := fun k => k = G n) BB (fun k h1 h2 => absurd h1 (by omega))).setCell (p := ⟨G n, 2, none⟩) (fun _ => rfl) _).alloc o
    exact own_chg H.pm.erow d1 (fun k hk e => own_ne_blk H.pm.erow hg (by decide) (by rw [hk, e]))
  -- the thread's block
  have b1 : Blk ((wB.setCell ⟨G n, 2, none⟩ (.pointer (some ⟨h, 0, none⟩))).alloc o) (G n) 92 #[Cv n, .int .i64 (p.next : Int), .pointer (some ⟨h, 0, none⟩)] := ((hg.below' BB).set_ 2 _).alloc o
  have b2 := cG.blk b1 (own_ne_blk hER b1 (by decide))
  have b3 := b2.set_ 1 (.int .i64 ((p.next : Int) + 1))
  -- the call's block
  have hne : h ≠ G n := by omega
  have t1 : Blk ((wB.setCell ⟨G n, 2, none⟩ (.pointer (some ⟨h, 0, none⟩))).alloc o) h 97 (thA (.slice Ao no co) (vbegin no c0.args).regs 0 (.slice none 0 0) 0 (vbegin no c0.args).over) := (TB.far (p := ⟨G n, 2, none⟩) hne _).alloc o
  have t2 := cG.blk t1 (own_ne_blk hER t1 (by decide))
  have t3 := t2.far (p := ⟨G n, 1, none⟩) hne (.int .i64 ((p.next : Int) + 1))
  have hVI : VI code (vbegin no c0.args) := by have := VI.begin code c0.args; rwa [hlen] at this
  have hEsc : (w6.setCell ⟨G n, 1, none⟩ (.int .i64 ((p.next : Int) + 1))).ownsRow w.heap.size 68 6 ev' (es ++ [evB k n p.next]).length ((es ++ [evB k n p.next]).flatMap gE) :=
    own_chg hE (Chg.set1 w6 (G n) 1 _) (fun k hk e => own_ne_blk hE b2 (by decide) (by rw [hk, e]))
  have hWS : WS w.heap.size (w6.setCell ⟨G n, 1, none⟩ (.int .i64 ((p.next : Int) + 1))) wv s.words := own_chg H.pm.words c4 fun k hk e => by
    rcases e with e | e
    · exact own_ne_blk H.pm.words hg (by decide) (by rw [hk, e])
    · exact absurd (own_ty H.pm.words H.pm.erow hk e) (by decide)
  have hpm := H.pm.upd_ (p' := (pbeg m k n calls p).1) hn h (.slice none 0 0) ev' s.words [evB k n p.next] cP (by rw [hpb]; exact b3) (by
    intro ci t hct
    rw [hpb] at hct
    simp only [Option.some.injEq, Prod.mk.injEq] at hct
    obtain ⟨rfl, rfl⟩ := hct
    exact ⟨by have := H.below.size; omega, Ao, no, co, code, hcode, hlen, h200, hsh, hsl, hVI, t3, World.ownsRow_nil _ _ _ _, vbegin_len _ _ hargs⟩) (fun _ => .inr HH) (.inl rfl) hWS hEsc (by
    intro x hx
    rw [List.mem_singleton.1 hx]
    exact ⟨World.ownsRow_nil _ _ _ _, .inl rfl⟩)
  obtain ⟨r1, r2⟩ := H.chg hn cP
  refine ⟨?_, r1, r2⟩
  unfold sbeg
  rw [hpb]
  rw [hpb] at hpm
  exact hpm
/-- a thread acts -/
theorem RS.act (H : RS w mb mc wr m G Hf Cv Tv wv pv nt es ev s) {n ci no co : Nat} {p : PT} {t t' : Th} {ws' : List Int} {code : List Op5} {Ao : Option Addr} {w2 : World}
    (hn : s.ths[n]? = some p) (hcur : p.cur = some (ci, t)) (hcode : m.codes[ci]? = some code) (hlen : code.length = no) (h200 : no ≤ 200) (hsh : ∀ o ∈ code, OpSh no o) (hsl : Sl w 5 Ao no (code.flatMap gO)) (hB : w.heap.size ≤ Hf n)
    (hT : TH w.heap.size wr (Hf n) (.slice Ao no co) t (Tv n)) (hS : SP w.heap.size wr w2 (Hf n) (.slice Ao no co) (Tv n) wv t' ws') (hV : VI code t') :
    ∃ tv', RS w mb mc w2 m G (upd Hf n (Hf n)) Cv (upd Tv n tv') wv pv nt es ev { ths := s.ths.set n ⟨p.next, some (ci, t')⟩, words := ws', evs := s.evs } := by
  obtain ⟨tv', q1, q2, q3, q4⟩ := hS
  have hp : p.cur.isSome = true := by rw [hcur]; rfl
  obtain ⟨hgB, hg⟩ := H.pm.ths n p hn
  rw [curH_some hp] at hg
  have cP : Chg (PMod G Hf Tv wv ev n p.cur.isSome) wr w2 := q4.wider fun k e => by
    rcases e with e | e | e
    · exact .inr (.inl ⟨hp, e⟩)
    · exact .inr (.inr (.inl e))
    · exact .inr (.inr (.inr (.inl e)))
  have b1 : Pb w2 (G n) (Cv n) p.next (some (Hf n)) := q4.blk hg fun e => by
    rcases e with e | e | e
    · rw [← e] at hT; exact absurd (blk_ty hg hT.blk) (by decide)
    · exact own_ne_blk hT.told hg (by decide) e
    · exact own_ne_blk H.pm.words hg (by decide) e
  have hE : w2.ownsRow w.heap.size 68 6 ev (es ++ []).length ((es ++ []).flatMap gE) := by
    rw [List.append_nil]
    refine own_chg H.pm.erow q4 fun k hk e => ?_
    rcases e with e | e | e
    · exact own_ne_blk H.pm.erow hT.blk (by decide) (by rw [hk, e])
    · exact absurd (own_ty H.pm.erow hT.told hk e) (by decide)
    · exact absurd (own_ty H.pm.erow H.pm.words hk e) (by decide)
  have hpm := H.pm.upd_ (p' := ⟨p.next, some (ci, t')⟩) hn (Hf n) tv' ev ws' [] cP b1 (by
    intro ci' u hct
    simp only [Option.some.injEq, Prod.mk.injEq] at hct
    obtain ⟨rfl, rfl⟩ := hct
    exact ⟨hB, Ao, no, co, code, hcode, hlen, h200, hsh, hsl, hV, q1⟩) (fun _ => .inl ⟨hp, rfl⟩) (.inr ⟨rfl, q3, rfl⟩) q2 hE (by simp)
  obtain ⟨r1, r2⟩ := H.chg hn cP
  refine ⟨tv', ?_, r1, r2⟩
  simp only [List.append_nil, List.map_nil] at hpm
  exact hpm
/-- a call ends -/
theorem RS.fin (H : RS w mb mc wr m G Hf Cv Tv wv pv nt es ev s) {n k ci : Nat} {p : PT} {t : Th} {U : SV} {w6 : World} {ev' : Value} (o : Obj)
    (hn : s.ths[n]? = some p) (hcur : p.cur = some (ci, t)) (hU : Tv n = U.v) (hG : (wr.alloc o).grownBy w6 ev.ownBlock)
    (hE : w6.ownsRow w.heap.size 68 6 ev' (es ++ [((⟨k, n, p.next - 1, true, t.err, t.told⟩ : Ev), U)]).length ((es ++ [((⟨k, n, p.next - 1, true, t.err, t.told⟩ : Ev), U)]).flatMap gE)) :
    RS w mb mc (w6.setCell ⟨G n, 2, none⟩ (.pointer none)) m G (upd Hf n 0) Cv (upd Tv n (.slice none 0 0)) wv pv nt (es ++ [((⟨k, n, p.next - 1, true, t.err, t.told⟩ : Ev), U)]) ev' { ths := s.ths.set n ⟨p.next, none⟩, words := s.words, evs := s.evs ++ [⟨k, n, p.next - 1, true, t.err, t.told⟩] } := by
  obtain ⟨hgB, hg⟩ := H.pm.ths n p hn
  have hcu := H.pm.cur n p ci t hn hcur
  obtain ⟨cv, hT⟩ := hcu.th
  have c2 : Chg (fun k => k = G n ∨ ev.ownBlock = some k) wr (wr.alloc o) := (Chg.refl _ wr).alloc o
  have c3 : Chg (fun k => k = G n ∨ ev.ownBlock = some k) wr w6 := c2.trans (Chg.of_grown hG (M := fun k => ev.ownBlock = some k) (fun k e => e)) (fun _ _ e => .inr e)
  have c4 : Chg (fun k => k = G n ∨ ev.ownBlock = some k) wr (w6.setCell ⟨G n, 2, none⟩ (.pointer none)) := c3.setCell (p := ⟨G n, 2, none⟩) (fun _ => .inl rfl) _
  have cP : Chg (PMod G Hf Tv wv ev n p.cur.isSome) wr (w6.setCell ⟨G n, 2, none⟩ (.pointer none)) := c4.wider fun k e => by
    rcases e with e | e
    · exact .inl e
    · exact .inr (.inr (.inr (.inr e)))
  have cG := Chg.of_grown hG (M := fun k => ev.ownBlock = some k) (fun k e => e)
  have hER : (wr.alloc o).ownsRow w.heap.size 68 6 ev es.length (es.flatMap gE) := own_below H.pm.erow (bnew (bnil wr) o)
  have b1 := hg.alloc o
  have b2 := cG.blk b1 (own_ne_blk hER b1 (by decide))
  have b3 := b2.set_ 2 (.pointer none)
  have hEsc := own_chg hE (Chg.set1 w6 (G n) 2 (.pointer none)) (fun k hk e => own_ne_blk hE b2 (by decide) (by rw [hk, e]))
  have rows : ∀ {u : Value} {q : Nat} {xs : List Value}, wr.ownsRow w.heap.size 3 1 u q xs → (w6.setCell ⟨G n, 2, none⟩ (.pointer none)).ownsRow w.heap.size 3 1 u q xs := fun h => own_chg h c4 fun k hk e => by
    rcases e with e | e
    · exact own_ne_blk h hg (by decide) (by rw [hk, e])
    · exact absurd (own_ty h H.pm.erow hk e) (by decide)
  have hpm := H.pm.upd_ (p' := ⟨p.next, none⟩) hn 0 (.slice none 0 0) ev' s.words [((⟨k, n, p.next - 1, true, t.err, t.told⟩ : Ev), U)] cP b3 (by
    intro ci' u hct
    cases hct) (fun h => by cases h) (.inl rfl) (rows H.pm.words) hEsc (by
    intro x hx
    rw [List.mem_singleton.1 hx]
    refine ⟨?_, .inr (by rw [hU])⟩
    have := rows hT.told
    rw [hU] at this
    exact this)
  obtain ⟨r1, r2⟩ := H.chg hn cP
  exact ⟨hpm, r1, r2⟩
theorem sbeg_get (m : Mach) (step n : Nat) (calls : List VCall) (p : PT) (s : PS) (hn : s.ths[n]? = some p) : (sbeg m step n calls p s).ths[n]? = some (pbeg m step n calls p).1 := by
  unfold sbeg
  rw [List.getElem?_set_self (List.getElem?_eq_some_iff.1 hn).1]
theorem pstep_none (m : Mach) (step n : Nat) (calls : List VCall) (p : PT) (s : PS) (hn : s.ths[n]? = some p) (hc : m.threads[n]? = some calls) (h : (pbeg m step n calls p).1.cur = none) : pstep m step n s = sbeg m step n calls p s := by
  rw [pstep_beg m step n calls p s hn hc]
  have hq : pbeg m step n calls p = (p, []) := by
    unfold pbeg at h ⊢
    cases hcur : p.cur with
    | some x => rfl
    | none =>
      rw [hcur] at h
      simp only at h ⊢
      cases hg : calls[p.next]? with
      | none => rfl
      | some c => rw [hg] at h; cases h
  rw [sbeg_same m step n calls p s hn hq]
  unfold pact
  rw [h]
theorem pstep_some (m : Mach) (step n ci : Nat) (t : Th) (code : List Op5) (calls : List VCall) (p : PT) (s : PS) (hn : s.ths[n]? = some p) (hc : m.threads[n]? = some calls) (h : (pbeg m step n calls p).1.cur = some (ci, t)) (hcode : m.codes[ci]? = some code) :
    pstep m step n s = if (vstep code t (sbeg m step n calls p s).words).1.over then { ths := (sbeg m step n calls p s).ths.set n ⟨(pbeg m step n calls p).1.next, none⟩, words := (vstep code t (sbeg m step n calls p s).words).2, evs := (sbeg m step n calls p s).evs ++ [⟨step, n, (pbeg m step n calls p).1.next - 1, true, (vstep code t (sbeg m step n calls p s).words).1.err, (vstep code t (sbeg m step n calls p s).words).1.told⟩] }
      else { ths := (sbeg m step n calls p s).ths.set n ⟨(pbeg m step n calls p).1.next, some (ci, (vstep code t (sbeg m step n calls p s).words).1)⟩, words := (vstep code t (sbeg m step n calls p s).words).2, evs := (sbeg m step n calls p s).evs } := by
  rw [pstep_beg m step n calls p s hn hc]
  have hcg : m.codes.getD ci [] = code := by rw [List.getD_eq_getElem?_getD, hcode]; rfl
  unfold pact sbeg
  rw [h]
  simp only [hcg, List.set_set, List.append_assoc]
theorem sbeg_evs (m : Mach) (step n : Nat) (calls : List VCall) (p : PT) (s : PS) : (sbeg m step n calls p s).evs.length ≤ s.evs.length + 1 := by
  have hb : (pbeg m step n calls p).2.length ≤ 1 := by
    unfold pbeg
    split
    · simp
    · split <;> simp
  unfold sbeg
  rw [List.length_append]; omega
/-- the same as the walk wants it: the cells of the thread's block behind the append, and the run's state -/
theorem RS.begin2 (H : RS w mb mc wr m G Hf Cv Tv wv pv nt es ev s) (k : Nat) (co : Nat) {n : Nat} {p : PT} {calls : List VCall} {c0 : VCall} {code : List Op5} {Ao : Option Addr} {no h : Nat} {wB : World}
    (hn : s.ths[n]? = some p) (hcur : p.cur = none) (hc0 : calls[p.next]? = some c0) (hcode : m.codes[c0.code]? = some code) (hlen : code.length = no) (h200 : no ≤ 200) (hsh : ∀ o ∈ code, OpSh no o) (hsl : Sl w 5 Ao no (code.flatMap gO)) (hargs : c0.args.length ≤ 24)
    (BB : Below wr.heap.size wr wB) (HH : wr.heap.size ≤ h) (TB : Tb wB h (.slice Ao no co) (vbegin no c0.args).regs 0 (.slice none 0 0) 0 (vbegin no c0.args).over) {y : List (Ev × SV)} (hy : es ++ [evB k n p.next] = y) :
    w.heap.size ≤ ((wB.setCell ⟨G n, 2, none⟩ (.pointer (some ⟨h, 0, none⟩))).heap.size) ∧ (wB.setCell ⟨G n, 2, none⟩ (.pointer (some ⟨h, 0, none⟩))).ownsRow w.heap.size 68 6 ev es.length (es.flatMap gE) ∧
    ∀ (o : Obj) (w6 : World) (ev' : Value), ((wB.setCell ⟨G n, 2, none⟩ (.pointer (some ⟨h, 0, none⟩))).alloc o).grownBy w6 ev.ownBlock → w6.ownsRow w.heap.size 68 6 ev' y.length (y.flatMap gE) →
      w6.cell? ⟨G n, 1, none⟩ = some (.int .i64 (p.next : Int)) ∧ w6.frozen? ⟨G n, 1, none⟩ = false ∧ Hid (RS w mb mc (w6.setCell ⟨G n, 1, none⟩ (.int .i64 ((p.next : Int) + 1))) m G (upd Hf n h) Cv (upd Tv n (.slice none 0 0)) wv pv nt y ev' (sbeg m k n calls p s)) := by
  subst hy
  obtain ⟨hgB, hg⟩ := H.pm.ths n p hn
  have hE1 := own_below H.pm.erow BB
  have hE2 : (wB.setCell ⟨G n, 2, none⟩ (.pointer (some ⟨h, 0, none⟩))).ownsRow w.heap.size 68 6 ev es.length (es.flatMap gE) := own_chg hE1 (Chg.set1 wB (G n) 2 _) (fun k' hk' e' => own_ne_blk hE1 (hg.below' BB) (by decide) (by rw [hk', e']))
  refine ⟨?_, hE2, fun o w6 ev' hG hE => ?_⟩
  · have := Nat.le_trans H.below.size BB.size
    simpa [World.setCell] using this
  · have b1 := ((hg.below' BB).set_ 2 (.pointer (some ⟨h, 0, none⟩))).alloc o
    have b2 := (Chg.of_grown hG (M := fun k => ev.ownBlock = some k) (fun k e => e)).blk b1 (own_ne_blk (own_below hE2 (bnew (bnil _) o)) b1 (by decide))
    exact ⟨b2.cell 1, b2.frozen 1, hid (H.begin o hn hcur hc0 hcode hlen h200 hsh hsl hargs BB HH TB hG hE)⟩
theorem RS.fin2 (H : RS w mb mc wr m G Hf Cv Tv wv pv nt es ev s) (k : Nat) {n ci : Nat} {p : PT} {t : Th} {U : SV} (hn : s.ths[n]? = some p) (hcur : p.cur = some (ci, t)) (hU : Tv n = U.v)
    {y : List (Ev × SV)} (hy : es ++ [((⟨k, n, p.next - 1, true, t.err, t.told⟩ : Ev), U)] = y) :
    ∀ (o : Obj) (w6 : World) (ev' : Value), (wr.alloc o).grownBy w6 ev.ownBlock → w6.ownsRow w.heap.size 68 6 ev' y.length (y.flatMap gE) →
      w6.cell? ⟨G n, 2, none⟩ = some (.pointer (some ⟨Hf n, 0, none⟩)) ∧ w6.frozen? ⟨G n, 2, none⟩ = false ∧ Hid (RS w mb mc (w6.setCell ⟨G n, 2, none⟩ (.pointer none)) m G (upd Hf n 0) Cv (upd Tv n (.slice none 0 0)) wv pv nt y ev' { ths := s.ths.set n ⟨p.next, none⟩, words := s.words, evs := s.evs ++ [⟨k, n, p.next - 1, true, t.err, t.told⟩] }) := by
  subst hy
  intro o w6 ev' hG hE
  obtain ⟨hgB, hg⟩ := H.pm.ths n p hn
  rw [curH_some (by rw [hcur]; rfl)] at hg
  have b1 := hg.alloc o
  have b2 := (Chg.of_grown hG (M := fun k => ev.ownBlock = some k) (fun k e => e)).blk b1 (own_ne_blk (own_below H.pm.erow (bnew (bnil _) o)) b1 (by decide))
  exact ⟨b2.cell 2, b2.frozen 2, hid (H.fin o hn hcur hU hG hE)⟩
/-- who is in a call has begun one -/
def PInv (l : List PT) : Prop := ∀ (j : Nat) (p : PT), l[j]? = some p → p.cur.isSome = true → 1 ≤ p.next
theorem PInv.set {l : List PT} (h : PInv l) (n : Nat) (p : PT) (hp : p.cur.isSome = true → 1 ≤ p.next) : PInv (l.set n p) := by
  intro j q hq hc
  rw [List.getElem?_set] at hq
  split at hq
  · split at hq
    · injection hq with hq; subst hq; exact hp hc
    · cases hq
  · exact h j q hq hc
theorem pbeg_inv (m : Mach) (step n : Nat) (calls : List VCall) (p : PT) (hp : p.cur.isSome = true → 1 ≤ p.next) : (pbeg m step n calls p).1.cur.isSome = true → 1 ≤ (pbeg m step n calls p).1.next := by
  unfold pbeg
  split
  · exact hp
  · split
    · exact hp
    · intro _; exact Nat.succ_le_succ (Nat.zero_le _)
theorem pstep_inv (m : Mach) (step n : Nat) (s : PS) (h : PInv s.ths) : PInv (pstep m step n s).ths := by
  unfold pstep
  split
  · rename_i p calls hp _
    have hq := pbeg_inv m step n calls p (h n p hp)
    unfold pact
    split
    · exact h
    · rename_i ci t hc
      have h1 := hq (by rw [hc]; rfl)
      split
      · exact h.set n _ (fun e => by cases e)
      · exact h.set n _ (fun _ => h1)
  · exact h
theorem prun_inv (m : Mach) : ∀ (l : List Nat) (i : Nat) (s : PS), PInv s.ths → PInv (prun m i l s).ths
  | [], _, _, h => h
  | n :: l, i, s, h => prun_inv m l (i + 1) _ (pstep_inv m i n s h)
theorem pinit_inv (m : Mach) : PInv (pinit m).ths := by
  intro j p h hc
  unfold pinit at h
  rw [List.getElem?_replicate] at h
  split at h
  · injection h with h; rw [← h] at hc; cases hc
  · cases h
/-- how many calls have begun at most -/
def PNext (b : Nat) (l : List PT) : Prop := ∀ (j : Nat) (p : PT), l[j]? = some p → p.next ≤ b
theorem PNext.set {b : Nat} {l : List PT} (h : PNext b l) (n : Nat) (p : PT) (hp : p.next ≤ b) : PNext b (l.set n p) := by
  intro j q hq
  rw [List.getElem?_set] at hq
  split at hq
  · split at hq
    · injection hq with hq; subst hq; exact hp
    · cases hq
  · exact h j q hq
theorem pbeg_next (m : Mach) (step n b : Nat) (calls : List VCall) (p : PT) (hp : p.next ≤ b) : (pbeg m step n calls p).1.next ≤ b + 1 := by
  unfold pbeg
  split
  · exact Nat.le_succ_of_le hp
  · split
    · exact Nat.le_succ_of_le hp
    · exact Nat.succ_le_succ hp
theorem pstep_next (m : Mach) (step n b : Nat) (s : PS) (h : PNext b s.ths) : PNext (b + 1) (pstep m step n s).ths := by
  have h' : PNext (b + 1) s.ths := fun j p hp => Nat.le_succ_of_le (h j p hp)
  unfold pstep
  split
  · rename_i p calls hp _
    have hq := pbeg_next m step n b calls p (h n p hp)
    unfold pact
    split
    · exact h'
    · split
      · exact h'.set n _ hq
      · exact h'.set n _ hq
  · exact h'
theorem prun_next (m : Mach) : ∀ (l : List Nat) (i b : Nat) (s : PS), PNext b s.ths → PNext (b + l.length) (prun m i l s).ths
  | [], _, _, _, h => h
  | n :: l, i, b, s, h => by
    have := prun_next m l (i + 1) (b + 1) _ (pstep_next m i n b s h)
    rw [List.length_cons, show b + (l.length + 1) = b + 1 + l.length by omega]
    exact this
theorem pinit_next (m : Mach) : PNext 0 (pinit m).ths := by
  intro j p h
  unfold pinit at h
  rw [List.getElem?_replicate] at h
  split at h
  · injection h with h; rw [← h]; exact Nat.le_refl _
  · cases h
end
end Go.Proofs.YtabmkjokeeakdaaDoor
