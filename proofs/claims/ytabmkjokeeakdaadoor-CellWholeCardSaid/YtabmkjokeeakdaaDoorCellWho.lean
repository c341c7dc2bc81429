/-
  Package cell: no Get is torn, and Gets and Puts could be one behind the other; plain laws.
-/
import Derived.Test.YtabmkjokeeakdaaDoorCellLaw
namespace Go.Proofs.YtabmkjokeeakdaaDoor
open Go.RowKit
set_option linter.unusedVariables false

/-! ### the words -/
def cwfb (n k p : Nat) : Bool := (vget (cpst n k p).2 0 == 2 * (k : Int) + (if p < 4 then 0 else 1)) && (if p < 4 then (cpst n k p).2 == cW0 n k else true)
set_option maxRecDepth 1000000 in
theorem cwf_all : ((List.range 6).all fun a => (List.range 12).all fun k => (List.range (a + 7)).all fun p => cwfb (a + 1) k p) = true := by decide +kernel
theorem cwf {n k p : Nat} (h1 : 1 ≤ n) (h6 : n ≤ 6) (hk : k < 12) (hp : p < n + 6) : vget (cpst n k p).2 0 = 2 * (k : Int) + (if p < 4 then 0 else 1) ∧ (p < 4 → (cpst n k p).2 = cW0 n k) := by
  have h := cwf_all
  rw [List.all_eq_true] at h
  have h := h (n - 1) (by rw [List.mem_range]; omega)
  rw [List.all_eq_true] at h
  have h := h k (by rw [List.mem_range]; omega)
  rw [List.all_eq_true] at h
  have h := h p (by rw [List.mem_range]; omega)
  rw [show n - 1 + 1 = n by omega] at h
  unfold cwfb at h
  rw [Bool.and_eq_true] at h
  refine ⟨eq_of_beq h.1, fun h4 => ?_⟩
  have h := h.2
  rw [if_pos h4] at h
  exact eq_of_beq h
/-- the words while their first one is f -/
structure CWS (n f : Nat) (ws : List Int) : Prop where
  w0 : vget ws 0 = (f : Int)
  ev : f % 2 = 0 → ws = cW0 n (f / 2)
  le : f ≤ 24
theorem ws_w0 {n k : Nat} (hk : k ≤ 12) : CWS n (2 * k) (cW0 n k) := ⟨by show 2 * (k : Int) = _; omega, fun _ => by rw [Nat.mul_div_cancel_left k (by decide)], by omega⟩
theorem ws_pst {n k p : Nat} (h1 : 1 ≤ n) (h6 : n ≤ 6) (hk : k < 12) (hp : p < n + 6) : CWS n (2 * k + if p < 4 then 0 else 1) (cpst n k p).2 := by
  obtain ⟨g1, g2⟩ := cwf h1 h6 hk hp
  by_cases h4 : p < 4
  · rw [if_pos h4] at g1 ⊢
    exact ⟨by rw [g1]; omega, fun _ => by rw [g2 h4]; congr 1; omega, by omega⟩
  · rw [if_neg h4] at g1 ⊢
    exact ⟨by rw [g1]; omega, fun h => by omega, by omega⟩
theorem CWS.eq {n f g : Nat} {ws : List Int} (h : CWS n f ws) (h2 : CWS n g ws) : f = g := by have a := h.w0; have b := h2.w0; rw [a] at b; omega
/-- a number of the k-th record -/
def rc (n k i : Nat) : Int := vget (cW0 n k) ((i : Int) + 1)
def recs (n k : Nat) : List Int := (List.range n).map (rc n k)
/-! ### what a Get has seen -/
structure GetH (n f : Nat) (t : Th) : Prop where
  turn : 2 ≤ t.pc → ∃ u : Nat, vget t.regs 1 = (u : Int) ∧ u ≤ f
  odd : t.pc = 3 → vget t.regs 3 = Int.tmod (vget t.regs 1) 2
  ev : 4 ≤ t.pc → Int.tmod (vget t.regs 1) 2 = 0
  data : 4 ≤ t.pc → t.pc ≤ 4 + n → vget t.regs 1 = (f : Int) → ∀ i : Nat, i + 4 < t.pc → vget t.regs ((i : Int) + 4) = rc n (f / 2) i
  now : t.pc = 5 + n → vget t.regs ((t.pc : Int) - 1) = vget t.regs 1 → ∀ i : Nat, i < n → vget t.regs ((i : Int) + 4) = rc n ((vget t.regs 1).toNat / 2) i
  same : t.pc = 6 + n → vget t.regs ((t.pc : Int) - 1) ≠ 0 → ∀ i : Nat, i < n → vget t.regs ((i : Int) + 4) = rc n ((vget t.regs 1).toNat / 2) i
  fin : 7 + n ≤ t.pc → (∀ i : Nat, i < n → vget t.regs ((i : Int) + 4) = rc n ((vget t.regs 1).toNat / 2) i) ∧ t.told = (List.range (t.pc - (7 + n))).map (rc n ((vget t.regs 1).toNat / 2))
theorem tm2 {f : Nat} (h : Int.tmod (f : Int) 2 = 0) : f % 2 = 0 := by
  have h : ((f % 2 : Nat) : Int) = 0 := h
  omega
theorem GetH.begin {n f : Nat} {t : Th} (h : t.pc ≤ 1) : GetH n f t := ⟨fun e => by omega, fun e => by omega, fun e => by omega, fun e => by omega, fun e => by omega, fun e => by omega, fun e => by omega⟩
theorem GetH.mono {n f g : Nat} {t : Th} (h : GetH n f t) (hg : f ≤ g) : GetH n g t where
  turn := fun e => by obtain ⟨u, h1, h2⟩ := h.turn e; exact ⟨u, h1, by omega⟩
  odd := h.odd
  ev := h.ev
  data := fun e1 e2 e3 => by
    obtain ⟨u, h1, h2⟩ := h.turn (by omega)
    obtain rfl : f = g := by rw [h1] at e3; omega
    exact h.data e1 e2 e3
  now := h.now
  same := h.same
  fin := h.fin
theorem GetH.next {n f : Nat} (h1 : 1 ≤ n) (h6 : n ≤ 6) {t : Th} {ws : List Int} (hw : CWS n f ws) (hg : GetS n t) (h : GetH n f t) : GetH n f (gnext n t ws) := by
  obtain ⟨regs, pc, told, err, over⟩ := t
  obtain ⟨a1, a2, a3, a4, a5, a6, a7⟩ := hg
  obtain ⟨b1, b2, b3, b4, b5, b6, b7⟩ := h
  simp only at a1 a2 a3 a4 a5 a6 a7 b1 b2 b3 b4 b5 b6 b7
  subst a1 a2
  unfold gnext
  simp only
  by_cases e0 : pc = 0
  · rw [if_pos e0]; exact GetH.begin (Nat.le_refl 1)
  rw [if_neg e0]
  by_cases e1 : pc = 1
  · rw [if_pos e1]
    exact ⟨fun _ => ⟨f, by rw [← hw.w0]; exact cv_eq _ _ (by rw [a4]; decide), Nat.le_refl _⟩, fun e => absurd e (by simp), fun e => absurd e (by simp), fun e => absurd e (by simp), fun e => absurd e (by simp only; omega), fun e => absurd e (by simp only; omega), fun e => absurd e (by simp only; omega)⟩
  rw [if_neg e1]
  by_cases e2 : pc = 2
  · rw [if_pos e2]; subst e2
    have k1 : ∀ x, vget (vset regs 3 x) 1 = vget regs 1 := fun x => cv_ne _ _ (by decide)
    exact ⟨fun _ => by simp only; rw [k1]; exact b1 (by omega), fun _ => by simp only; rw [k1]; exact cv_eq _ _ (by rw [a4]; decide), fun e => absurd e (by simp), fun e => absurd e (by simp), fun e => absurd e (by simp only; omega), fun e => absurd e (by simp only; omega), fun e => absurd e (by simp only; omega)⟩
  rw [if_neg e2]
  by_cases e3 : pc = 3
  · rw [if_pos e3]
    by_cases hr : vget regs 3 ≠ 0
    · rw [if_pos hr]; exact GetH.begin (Nat.le_refl 1)
    · rw [if_neg hr]; subst e3
      have hr := Classical.not_not.1 hr
      exact ⟨fun _ => b1 (by omega), fun e => absurd e (by simp), fun _ => by rw [← b2 rfl]; exact hr, fun _ _ _ i hi => by simp only at hi; omega, fun e => absurd e (by simp only; omega), fun e => absurd e (by simp only; omega), fun e => absurd e (by simp only; omega)⟩
  rw [if_neg e3]
  by_cases e4 : pc < 4 + n
  · rw [if_pos e4]
    have k1 : ∀ x, vget (vset regs (pc : Int) x) 1 = vget regs 1 := fun x => cv_ne _ _ (by omega)
    refine ⟨fun _ => by simp only; rw [k1]; exact b1 (by omega), fun e => absurd e (by simp only; omega), fun _ => by simp only; rw [k1]; exact b3 (by omega), fun _ _ e i hi => ?_, fun e => absurd e (by simp only; omega), fun e => absurd e (by simp only; omega), fun e => absurd e (by simp only; omega)⟩
    simp only at e hi ⊢
    rw [k1] at e
    by_cases hii : i + 4 = pc
    · have hev : f % 2 = 0 := tm2 (by rw [← e]; exact b3 (by omega))
      have hws := hw.ev hev
      rw [show ((i : Int) + 4) = (pc : Int) by omega, cv_eq _ _ (by rw [a4]; omega), hws]
      unfold rc
      congr 1
      omega
    · rw [cv_ne _ _ (by omega)]
      exact b4 (by omega) (by omega) e i (by omega)
  rw [if_neg e4]
  by_cases e5 : pc = 4 + n
  · rw [if_pos e5]
    have k1 : ∀ x, vget (vset regs (pc : Int) x) 1 = vget regs 1 := fun x => cv_ne _ _ (by omega)
    refine ⟨fun _ => by simp only; rw [k1]; exact b1 (by omega), fun e => absurd e (by simp only; omega), fun _ => by simp only; rw [k1]; exact b3 (by omega), fun _ e => absurd e (by simp only; omega), fun _ e i hi => ?_, fun e => absurd e (by simp only; omega), fun e => absurd e (by simp only; omega)⟩
    simp only at e ⊢
    rw [show (((pc + 1 : Nat) : Int) - 1) = (pc : Int) by omega, cv_eq _ _ (by rw [a4]; omega), k1, hw.w0] at e
    rw [k1, cv_ne _ _ (by omega), ← e, b4 (by omega) (by omega) e.symm i (by omega)]
    rfl
  rw [if_neg e5]
  by_cases e6 : pc = 5 + n
  · rw [if_pos e6]
    have k1 : ∀ x, vget (vset regs (pc : Int) x) 1 = vget regs 1 := fun x => cv_ne _ _ (by omega)
    refine ⟨fun _ => by simp only; rw [k1]; exact b1 (by omega), fun e => absurd e (by simp only; omega), fun _ => by simp only; rw [k1]; exact b3 (by omega), fun _ e => absurd e (by simp only; omega), fun e => absurd e (by simp only; omega), fun _ e i hi => ?_, fun e => absurd e (by simp only; omega)⟩
    simp only at e ⊢
    rw [show (((pc + 1 : Nat) : Int) - 1) = (pc : Int) by omega, cv_eq _ _ (by rw [a4]; omega)] at e
    rw [k1, cv_ne _ _ (by omega)]
    refine b5 e6 ?_ i hi
    by_cases hq : vget regs 1 = vget regs ((pc : Int) - 1)
    · exact hq.symm
    · rw [decide_eq_false hq] at e; exact absurd rfl e
  rw [if_neg e6]
  by_cases e7 : pc = 6 + n
  · rw [if_pos e7]
    by_cases hr : vget regs ((pc : Int) - 1) = 0
    · rw [if_pos hr]; exact GetH.begin (Nat.le_refl 1)
    · rw [if_neg hr]
      refine ⟨fun _ => b1 (by omega), fun e => absurd e (by simp only; omega), fun _ => b3 (by omega), fun _ e => absurd e (by simp only; omega), fun e => absurd e (by simp only; omega), fun e => absurd e (by simp only; omega), fun _ => ⟨b6 e7 hr, ?_⟩⟩
      have hz : pc + 1 - (7 + n) = 0 := by clear b1; omega
      have ht : told = [] := List.eq_nil_of_length_eq_zero (by clear b1; omega)
      simp only
      rw [hz, ht]
      rfl
  rw [if_neg e7]
  obtain ⟨g1, g2⟩ := b7 (by omega)
  refine ⟨fun _ => b1 (by omega), fun e => absurd e (by simp only; omega), fun _ => b3 (by omega), fun _ e => absurd e (by simp only; omega), fun e => absurd e (by simp only; omega), fun e => absurd e (by simp only; omega), fun _ => ⟨g1, ?_⟩⟩
  have hz : pc + 1 - (7 + n) = pc - (7 + n) + 1 := by clear b1; omega
  have hy : (((pc - (7 + n) : Nat) : Int) + 4) = (pc : Int) - 3 - n := by clear b1; omega
  have hx := g1 (pc - (7 + n)) (by clear b1; omega)
  rw [hy] at hx
  simp only
  rw [g2, hz, List.range_succ, List.map_append, hx]
  rfl
/-! ### all runs -/
/-- which Put a call tells of, or is -/
def vnum (d : Dg) : Nat := ((d.told.getD 0 0) / 10).toNat
def lowb (d : Dg) : Nat := if d.t = 0 then 2 * (d.c + 1) else 2 * vnum d
theorem recs_num {n k : Nat} (h1 : 1 ≤ n) (b : Nat) (e : Option Nat) (t c : Nat) : vnum ⟨b, e, t, c, recs n k⟩ = k := by
  unfold vnum recs
  obtain ⟨q, rfl⟩ : ∃ q, n = q + 1 := ⟨n - 1, by omega⟩
  rw [List.range_succ_eq_map]
  show ((rc (q + 1) k 0) / 10).toNat = k
  unfold rc cW0 cargs
  by_cases h : k = 0
  · subst h; simp [vget]
  · rw [if_neg h]
    show ((((List.range (q + 1)).map fun k' : Nat => 10 * (((k - 1 : Nat) : Int) + 1) + (k' : Int)).getD 0 0) / 10).toNat = k
    rw [List.range_succ_eq_map]
    show ((10 * (((k - 1 : Nat) : Int) + 1) + ((0 : Nat) : Int)) / 10).toNat = k
    omega
structure ToldW (n : Nat) (ds : List Dg) (d : Dg) (e v : Nat) : Prop where
  le : v ≤ 12
  told : d.told = recs n v
  low : ∀ (k' : Nat) (d' : Dg) (e' : Nat), ds[k']? = some d' → d'.e = some e' → e' < d.b → lowb d' ≤ 2 * v
  put : 1 ≤ v → ∃ (k' : Nat) (dp : Dg), ds[k']? = some dp ∧ dp.t = 0 ∧ dp.c = v - 1 ∧ dp.b ≤ e
structure WI (n : Nat) (ths : List PT) (ws : List Int) (ds : List Dg) : Prop where
  p0 : ∃ p, ths[0]? = some p
  w : ∃ f, CWS n f ws ∧ (∀ j nx ci t, j ≠ 0 → ths[j]? = some ⟨nx, some (ci, t)⟩ → GetH n f t) ∧ (∀ (k : Nat) (d : Dg) (e : Nat), ds[k]? = some d → d.e = some e → lowb d ≤ f)
  his : ∀ (k : Nat) (d : Dg) nx ci t, ds[k]? = some d → d.t ≠ 0 → d.e = none → ths[d.t]? = some ⟨nx, some (ci, t)⟩ → 2 ≤ t.pc → ∀ (k' : Nat) (d' : Dg) (e' : Nat), ds[k']? = some d' → d'.e = some e' → e' < d.b → (lowb d' : Int) ≤ vget t.regs 1
  told : ∀ (k : Nat) (d : Dg) (e : Nat), ds[k]? = some d → d.t ≠ 0 → d.e = some e → ∃ v, ToldW n ds d e v
theorem gnext_turn {n : Nat} {t : Th} {ws : List Int} (h : GetS n t) (h2 : 2 ≤ (gnext n t ws).pc) : (t.pc = 1 ∧ vget (gnext n t ws).regs 1 = vget ws 0) ∨ (2 ≤ t.pc ∧ vget (gnext n t ws).regs 1 = vget t.regs 1) := by
  obtain ⟨regs, pc, told, err, over⟩ := t
  obtain ⟨a1, a2, a3, a4, a5, a6, a7⟩ := h
  simp only at a1 a2 a3 a4 a5 a6 a7
  subst a1 a2
  unfold gnext at h2 ⊢
  simp only at h2 ⊢
  by_cases e0 : pc = 0
  · rw [if_pos e0] at h2; exact absurd h2 (by simp)
  rw [if_neg e0] at h2 ⊢
  by_cases e1 : pc = 1
  · rw [if_pos e1]; exact .inl ⟨e1, cv_eq _ _ (by rw [a4]; decide)⟩
  rw [if_neg e1] at h2 ⊢
  refine .inr ⟨by omega, ?_⟩
  split
  · exact cv_ne _ _ (by decide)
  split
  · rfl
  split
  · exact cv_ne _ _ (by omega)
  split
  · exact cv_ne _ _ (by omega)
  split
  · exact cv_ne _ _ (by omega)
  split
  · rfl
  · rfl
/-- the words behind a step of thread 0 -/
theorem put_ws {n nx p : Nat} {t : Th} {ws : List Int} (h1 : 1 ≤ n) (h6 : n ≤ 6) (hn : 1 ≤ nx) (hn2 : nx ≤ 12) (hp : p < n + 6) (e : cpst n (nx - 1) p = (t, ws)) {f : Nat} (hf : CWS n f ws) (hp2 : p + 1 < n + 6) :
    ∃ g, f ≤ g ∧ CWS n g (vstep (cputCode n) t ws).2 := by
  have hg := ws_pst h1 h6 (show nx - 1 < 12 by omega) hp2
  have hf2 := ws_pst h1 h6 (show nx - 1 < 12 by omega) hp
  rw [e] at hf2
  have h3 := hf.eq hf2
  have e2 : cpst n (nx - 1) (p + 1) = vstep (cputCode n) t ws := by show vstep (cputCode n) (cpst n (nx - 1) p).1 (cpst n (nx - 1) p).2 = _; rw [e]
  rw [e2] at hg
  refine ⟨_, ?_, hg⟩
  rw [h3]
  split <;> split <;> omega
theorem whole_keeps {n : Nat} (h1 : 1 ≤ n) (h6 : n ≤ 6) (l : List Nat) (G : Nat) : PKeeps (cmach n 12 G) l (fun i ths ws ds => CI l n i ths ws ds ∧ WI n ths ws ds) where
  idle := fun i s n' hi hD h hn => ⟨(cell_keeps h1 h6 l G).idle i s n' hi hD h.1 hn, h.2⟩
  begin_ := by
    intro i s n' nx calls c hi hD h hn hc hcc
    have hK := (cell_keeps h1 h6 l G).begin_ i s n' nx calls c hi hD h.1 hn hc hcc
    obtain ⟨hC, hW⟩ := h
    obtain ⟨f, w1, w2, w3⟩ := hW.w
    refine ⟨hK, ⟨?_, ⟨f, w1, fun j nx' ci t hj hn' => ?_, fun k d e hk he => ?_⟩, fun k d nx' ci t hk ht he hn' h2 k' d' e' hk' he' hlt => ?_, fun k d e hk ht he => ?_⟩⟩
    · obtain ⟨p, hp⟩ := hW.p0
      by_cases e : n' = 0
      · subst e; exact ⟨_, set_at hn _⟩
      · exact ⟨p, set_get hp e _⟩
    · rcases get_set hn' with ⟨e0, e⟩ | ⟨_, e⟩
      · subst e0
        injection e with e2 e; injection e with e; injection e with e3 e4
        subst e4
        exact GetH.begin (Nat.zero_le 1)
      · exact w2 j nx' ci t hj e
    · rcases get_snoc hk with hk | ⟨_, rfl⟩
      · exact w3 k d e hk he
      · cases he
    · rcases get_snoc hk' with hk' | ⟨_, rfl⟩
      · rcases get_set hn' with ⟨e0, e⟩ | ⟨e0, e⟩
        · injection e with e2 e; injection e with e; injection e with e3 e4
          subst e4
          exact absurd h2 (by show ¬ 2 ≤ 0; decide)
        · rcases get_snoc hk with hk | ⟨_, rfl⟩
          · exact hW.his k d nx' ci t hk ht he e h2 k' d' e' hk' he' hlt
          · exact absurd rfl e0
      · cases he'
    · rcases get_snoc hk with hk | ⟨_, rfl⟩
      · obtain ⟨v, v1, v2, v3, v4⟩ := hW.told k d e hk ht he
        refine ⟨v, v1, v2, fun k' d' e' hk' he' hlt => ?_, fun hv => ?_⟩
        · rcases get_snoc hk' with hk' | ⟨_, rfl⟩
          · exact v3 k' d' e' hk' he' hlt
          · cases he'
        · obtain ⟨k', dp, q1, q2⟩ := v4 hv
          exact ⟨k', dp, snoc_get q1 _, q2⟩
      · cases he
  cont := by
    intro i s n' nx ci t hi hD h hn hov
    have hK := (cell_keeps h1 h6 l G).cont i s n' nx ci t hi hD h.1 hn hov
    obtain ⟨hC, hW⟩ := h
    obtain ⟨f, w1, w2, w3⟩ := hW.w
    refine ⟨hK, ?_⟩
    have hp0 : ∀ q, ∃ p, (s.ths.set n' q)[0]? = some p := fun q => by
      obtain ⟨p, hp⟩ := hW.p0
      by_cases e : n' = 0
      · subst e; exact ⟨_, set_at hn _⟩
      · exact ⟨p, set_get hp e _⟩
    by_cases e0 : n' = 0
    · subst e0
      obtain ⟨rfl, a2, a3, p, a4, a5⟩ := hC.t0s nx ci t hn
      obtain ⟨_, _, _, p', b4, b5⟩ := hK.t0s nx 0 _ (set_at hn _)
      have hpp : p + 1 < n + 6 := by
        rcases Nat.lt_or_ge (p + 1) (n + 6) with h | h
        · exact h
        · have h3 := (cpend h1 h6 (show nx - 1 < 12 by omega)).1
          rw [show n + 6 = p + 1 by omega] at h3
          have h4 : cpst n (nx - 1) (p + 1) = vstep ((cmach n 12 G).codes.getD 0 []) t s.words := by
            show vstep (cputCode n) (cpst n (nx - 1) p).1 (cpst n (nx - 1) p).2 = vstep (cputCode n) t s.words
            rw [a5]
          rw [h4, hov] at h3
          cases h3
      obtain ⟨g, g1, g2⟩ := put_ws h1 h6 a2 a3 a4 a5 w1 hpp
      refine ⟨hp0 _, ⟨g, g2, fun j nx' ci' t' hj hn' => ?_, fun k d e hk he => Nat.le_trans (w3 k d e hk he) g1⟩, fun k d nx' ci' t' hk ht he hn' h2 k' d' e' hk' he' hlt => ?_, hW.told⟩
      · rcases get_set hn' with ⟨e, _⟩ | ⟨_, e⟩
        · exact absurd e hj
        · exact (w2 j nx' ci' t' hj e).mono g1
      · rcases get_set hn' with ⟨e, _⟩ | ⟨_, e⟩
        · exact absurd e ht
        · exact hW.his k d nx' ci' t' hk ht he e h2 k' d' e' hk' he' hlt
    · obtain ⟨rfl, g⟩ := hC.ts n' nx ci t e0 hn
      have hv : vstep ((cmach n 12 G).codes.getD 1 []) t s.words = (gnext n t s.words, s.words) := gstep h1 h6 g hC.len
      rw [hv] at hov ⊢
      refine ⟨hp0 _, ⟨f, w1, fun j nx' ci' t' hj hn' => ?_, w3⟩, fun k d nx' ci' t' hk ht he hn' h2 k' d' e' hk' he' hlt => ?_, hW.told⟩
      · rcases get_set hn' with ⟨_, e⟩ | ⟨_, e⟩
        · injection e with e2 e; injection e with e; injection e with e3 e4
          subst e4
          exact (w2 n' nx 1 t e0 hn).next h1 h6 w1 g
        · exact w2 j nx' ci' t' hj e
      · rcases get_set hn' with ⟨e1, e⟩ | ⟨_, e⟩
        · injection e with e2 e; injection e with e; injection e with e3 e4
          subst e4
          rcases gnext_turn g h2 with ⟨_, q⟩ | ⟨q1, q⟩
          · rw [q, w1.w0]
            have := w3 k' d' e' hk' he'
            omega
          · rw [q]
            exact hW.his k d nx 1 t hk ht he (by rw [e1]; exact hn) q1 k' d' e' hk' he' hlt
        · exact hW.his k d nx' ci' t' hk ht he e h2 k' d' e' hk' he' hlt
  fin_ := by
    intro i s n' nx ci t k0 d0 hi hD h hn hov hk0 ht0 hdc0 he0 htold
    obtain ⟨hK, herr⟩ := (cell_keeps h1 h6 l G).fin_ i s n' nx ci t k0 d0 hi hD h.1 hn hov hk0 ht0 hdc0 he0 htold
    obtain ⟨hC, hW⟩ := h
    obtain ⟨f, w1, w2, w3⟩ := hW.w
    refine ⟨⟨hK, ?_⟩, herr⟩
    have hp0 : ∀ q, ∃ p, (s.ths.set n' q)[0]? = some p := fun q => by
      obtain ⟨p, hp⟩ := hW.p0
      by_cases e : n' = 0
      · subst e; exact ⟨_, set_at hn _⟩
      · exact ⟨p, set_get hp e _⟩
    have hnew : ∀ (k : Nat) (d : Dg), (doings s.evs)[k]? = some d → ¬ i < d.b := fun k d hk h => by
      have := (hD.time k d hk).1
      omega
    by_cases e0 : n' = 0
    · subst e0
      obtain ⟨rfl, a2, a3, p, a4, a5⟩ := hC.t0s nx ci t hn
      obtain ⟨b1, b2⟩ := hK.t0n nx (set_at hn _)
      have hg : CWS n (2 * nx) (vstep ((cmach n 12 G).codes.getD 0 []) t s.words).2 := by rw [b2]; exact ws_w0 a3
      have hfg : f ≤ 2 * nx := by
        have h3 := ws_pst h1 h6 (show nx - 1 < 12 by omega) a4
        rw [a5] at h3
        have := w1.eq h3
        rw [this]
        split <;> omega
      refine ⟨hp0 _, ⟨2 * nx, hg, fun j nx' ci' t' hj hn' => ?_, fun k d e hk he => ?_⟩, fun k d nx' ci' t' hk ht he hn' h2 k' d' e' hk' he' hlt => ?_, fun k d e hk ht he => ?_⟩
      · rcases get_set hn' with ⟨e, _⟩ | ⟨_, e⟩
        · exact absurd e hj
        · exact (w2 j nx' ci' t' hj e).mono hfg
      · rcases get_set hk with ⟨rfl, rfl⟩ | ⟨_, hk2⟩
        · show (if d0.t = 0 then 2 * (d0.c + 1) else _) ≤ 2 * nx
          rw [if_pos ht0, hdc0]
          omega
        · exact Nat.le_trans (w3 k d e hk2 he) hfg
      · rcases get_set hk with ⟨rfl, rfl⟩ | ⟨_, hk2⟩
        · exact absurd ht0 ht
        · rcases get_set hn' with ⟨e, _⟩ | ⟨_, e⟩
          · exact absurd e ht
          · rcases get_set hk' with ⟨rfl, rfl⟩ | ⟨_, hk'⟩
            · injection he' with he'
              subst he'
              exact absurd hlt (hnew _ _ hk2)
            · exact hW.his k d nx' ci' t' hk2 ht he e h2 k' d' e' hk' he' hlt
      · rcases get_set hk with ⟨rfl, rfl⟩ | ⟨_, hk2⟩
        · exact absurd ht0 ht
        · obtain ⟨v, v1, v2, v3, v4⟩ := hW.told k d e hk2 ht he
          refine ⟨v, v1, v2, fun k' d' e' hk' he' hlt => ?_, fun hv => ?_⟩
          · rcases get_set hk' with ⟨rfl, rfl⟩ | ⟨_, hk'⟩
            · injection he' with he'
              subst he'
              exact absurd hlt (hnew _ _ hk2)
            · exact v3 k' d' e' hk' he' hlt
          · obtain ⟨k', dp, q1, q2, q3, q4⟩ := v4 hv
            by_cases ek : k' = k0
            · subst ek
              rw [hk0] at q1
              injection q1 with q1
              subst q1
              exact ⟨k', _, set_at hk0 _, q2, q3, q4⟩
            · exact ⟨k', dp, set_get q1 (fun e => ek e.symm) _, q2, q3, q4⟩
    · obtain ⟨rfl, g⟩ := hC.ts n' nx ci t e0 hn
      have hv : vstep ((cmach n 12 G).codes.getD 1 []) t s.words = (gnext n t s.words, s.words) := gstep h1 h6 g hC.len
      rw [hv] at hov ⊢
      have hpc := (gnext_over s.words g hov).1
      have hH := (w2 n' nx 1 t e0 hn).next h1 h6 w1 g
      have hnpc : (gnext n t s.words).pc = 2 * n + 7 := by
        unfold gnext
        simp only
        rw [if_neg (by omega), if_neg (by omega), if_neg (by omega), if_neg (by omega), if_neg (by omega), if_neg (by omega), if_neg (by omega), if_neg (by omega)]
        exact hpc
      have hturn := gnext_turn (ws := s.words) g (by rw [hnpc]; omega)
      have hturn : vget (gnext n t s.words).regs 1 = vget t.regs 1 := by
        rcases hturn with ⟨q, _⟩ | ⟨_, q⟩
        · omega
        · exact q
      obtain ⟨u, u1, u2⟩ := hH.turn (by rw [hnpc]; omega)
      have hev := hH.ev (by rw [hnpc]; omega)
      obtain ⟨_, htd⟩ := hH.fin (by rw [hnpc]; omega)
      rw [u1] at hev
      have hev := tm2 hev
      rw [hnpc, u1, show 2 * n + 7 - (7 + n) = n by omega] at htd
      obtain ⟨v, hv2⟩ : ∃ v, u = 2 * v := ⟨u / 2, by omega⟩
      have htd : (gnext n t s.words).told = recs n v := by rw [htd, show ((u : Int)).toNat / 2 = v by omega]; rfl
      have hle := w1.le
      refine ⟨hp0 _, ⟨f, w1, fun j nx' ci' t' hj hn' => ?_, fun k d e hk he => ?_⟩, fun k d nx' ci' t' hk ht he hn' h2 k' d' e' hk' he' hlt => ?_, fun k d e hk ht he => ?_⟩
      · rcases get_set hn' with ⟨_, e⟩ | ⟨_, e⟩
        · cases e
        · exact w2 j nx' ci' t' hj e
      · rcases get_set hk with ⟨rfl, rfl⟩ | ⟨_, hk2⟩
        · have hz : d0.t ≠ 0 := by rw [ht0]; exact e0
          show (if d0.t = 0 then _ else 2 * vnum _) ≤ f
          rw [if_neg hz, htd, recs_num h1]
          omega
        · exact w3 k d e hk2 he
      · rcases get_set hk with ⟨rfl, rfl⟩ | ⟨hkk, hk2⟩
        · cases he
        · rcases get_set hn' with ⟨_, e⟩ | ⟨_, e⟩
          · cases e
          · rcases get_set hk' with ⟨rfl, rfl⟩ | ⟨_, hk'⟩
            · injection he' with he'
              subst he'
              exact absurd hlt (hnew _ _ hk2)
            · exact hW.his k d nx' ci' t' hk2 ht he e h2 k' d' e' hk' he' hlt
      · rcases get_set hk with ⟨rfl, rfl⟩ | ⟨_, hk2⟩
        · injection he with he
          subst he
          refine ⟨v, by omega, htd, fun k' d' e' hk' he' hlt => ?_, fun hv => ?_⟩
          · rcases get_set hk' with ⟨rfl, rfl⟩ | ⟨_, hk'⟩
            · injection he' with he'
              subst he'
              exact absurd (show i < d0.b from hlt) (hnew _ d0 hk0)
            · have := hW.his _ d0 nx 1 t hk0 ht he0 (by rw [ht0]; exact hn) (by omega) k' d' e' hk' he' hlt
              rw [← hturn, u1] at this
              omega
          · obtain ⟨p, hp⟩ := hW.p0
            have hfx : f ≤ 2 * p.next := by
              obtain ⟨nx0, cur⟩ := p
              cases cur with
              | none =>
                obtain ⟨c1, c2⟩ := hC.t0n nx0 hp
                have := w1.eq (by rw [c2]; exact ws_w0 c1 : CWS n (2 * nx0) s.words)
                show f ≤ 2 * nx0
                omega
              | some x =>
                obtain ⟨ci0, t0⟩ := x
                obtain ⟨_, c2, c3, p', c4, c5⟩ := hC.t0s nx0 ci0 t0 hp
                have h3 := ws_pst h1 h6 (show nx0 - 1 < 12 by omega) c4
                rw [c5] at h3
                have := w1.eq h3
                show f ≤ 2 * nx0
                rw [this]
                split <;> omega
            obtain ⟨k', dp, q1, q2, q3⟩ := hD.ths 0 p hp (v - 1) (by omega)
            have q4 := (hD.time k' dp q1).1
            have hne : k' ≠ k := fun e => by
              subst e
              rw [hk0] at q1
              injection q1 with q1
              subst q1
              exact e0 (ht0.symm.trans q2)
            exact ⟨k', dp, set_get q1 (fun e => hne e.symm) _, q2, q3, by omega⟩
        · obtain ⟨v', v1, v2, v3, v4⟩ := hW.told k d e hk2 ht he
          refine ⟨v', v1, v2, fun k' d' e' hk' he' hlt => ?_, fun hv => ?_⟩
          · rcases get_set hk' with ⟨rfl, rfl⟩ | ⟨_, hk'⟩
            · injection he' with he'
              subst he'
              exact absurd hlt (hnew _ _ hk2)
            · exact v3 k' d' e' hk' he' hlt
          · obtain ⟨k', dp, q1, q2, q3, q4⟩ := v4 hv
            have hne : k' ≠ k0 := fun e => by
              subst e
              rw [hk0] at q1
              injection q1 with q1
              subst q1
              exact e0 (ht0.symm.trans q2)
            exact ⟨k', dp, set_get q1 (fun e => hne e.symm) _, q2, q3, q4⟩
theorem WI.start (n G : Nat) : WI n (pinit (cmach n 12 G)).ths (cmach n 12 G).words [] := by
  refine ⟨⟨⟨0, none⟩, rfl⟩, ⟨0, ?_, fun j nx ci t _ h => ?_, fun k d e h => by simp at h⟩, fun k d nx ci t h => by simp at h, fun k d e h => by simp at h⟩
  · have := ws_w0 (n := n) (k := 0) (by decide)
    have e : cW0 n 0 = (cmach n 12 G).words := by simp [cmach, cW0]; rfl
    rw [e] at this
    exact this
  · exfalso
    unfold pinit at h
    simp only [List.getElem?_replicate] at h
    split at h
    · injection h with h; injection h with _ h; cases h
    · cases h
theorem cell_whole {n : Nat} (h1 : 1 ≤ n) (h6 : n ≤ 6) (l : List Nat) (G : Nat) : (∀ (k : Nat) (d : Dg) (e : Nat), (doings (play (cmach n 12 G) l).evs)[k]? = some d → d.t ≠ 0 → d.e = some e → ∃ v, ToldW n (doings (play (cmach n 12 G) l).evs) d e v) ∧ NoErr (play (cmach n 12 G) l).evs := by
  have h := (whole_keeps h1 h6 l G).play ⟨CI.start l n G, WI.start n G⟩
  exact ⟨h.1.2.told, h.2⟩
end Go.Proofs.YtabmkjokeeakdaaDoor
