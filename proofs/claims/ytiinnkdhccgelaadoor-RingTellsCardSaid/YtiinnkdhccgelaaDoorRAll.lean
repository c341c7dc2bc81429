/-
  Package ring: plain laws. (Merged by mergeR.py.)
-/
import Derived.Test.YtiinnkdhccgelaaDoorPlayInd
import Derived.Test.YtiinnkdhccgelaaDoorQStep
import Derived.Test.YtiinnkdhccgelaaDoorQObj
import Derived.Test.YtiinnkdhccgelaaDoorMachN
namespace Go.Proofs.YtiinnkdhccgelaaDoor
open Go.RowKit
set_option linter.unusedVariables false

/-- no operation goes back -/
def Fwd (code : List Op5) : Prop := ∀ (i : Nat) (o : Op5), code[i]? = some o → (o.k = 10 → i < o.a.toNat ∧ o.a.toNat ≤ code.length) ∧ (o.k = 11 ∨ o.k = 12 → i < o.b.toNat ∧ o.b.toNat ≤ code.length)
theorem vdo_pc (o : Op5) (t : Th) (ws : List Int) : (vdo o t ws).1.pc = t.pc ∨ (o.k = 10 ∧ (vdo o t ws).1.pc = o.a.toNat) ∨ ((o.k = 11 ∨ o.k = 12) ∧ (vdo o t ws).1.pc = o.b.toNat) := by
  unfold vdo
  simp only
  iterate 9 (split; exact .inl rfl)
  unfold vother
  split
  · exact .inr (.inl ⟨by assumption, rfl⟩)
  · split
    · split
      · exact .inr (.inr ⟨.inl (by assumption), rfl⟩)
      · exact .inl rfl
    · split
      · split
        · exact .inr (.inr ⟨.inr (by assumption), rfl⟩)
        · exact .inl rfl
      · split
        · split <;> exact .inl rfl
        · split
          · exact .inl rfl
          · simp only
            split
            · exact .inl rfl
            · split
              · exact .inl rfl
              · split
                · exact .inl rfl
                · split <;> exact .inl rfl
theorem vstep_fwd {code : List Op5} (hF : Fwd code) {t : Th} (ht : t.over = false) (hp : t.pc < code.length) (ws : List Int) (ho : (vstep code t ws).1.over = false) : t.pc < (vstep code t ws).1.pc ∧ (vstep code t ws).1.pc < code.length := by
  have hc : code[t.pc]? = some code[t.pc] := List.getElem?_eq_getElem hp
  have e : vstep code t ws = (let r := vdo code[t.pc] { t with pc := t.pc + 1 } ws; ({ r.1 with over := r.1.over || decide (r.1.pc = code.length) }, r.2)) := by
    unfold vstep
    rw [if_neg (by rw [ht]; decide), hc]
  rw [e] at ho ⊢
  simp only at ho ⊢
  have h1 : (vdo code[t.pc] { t with pc := t.pc + 1 } ws).1.pc ≠ code.length := by
    intro h; rw [h] at ho; simp at ho
  have h2 := vdo_pc code[t.pc] { t with pc := t.pc + 1 } ws
  obtain ⟨f1, f2⟩ := hF _ _ hc
  rcases h2 with h2 | ⟨h3, h2⟩ | ⟨h3, h2⟩
  · have h2 : (vdo code[t.pc] { t with pc := t.pc + 1 } ws).1.pc = t.pc + 1 := h2
    omega
  · have := f1 h3; omega
  · have := f2 h3; omega
structure FwdI (m : Mach) (l : List Nat) (B : Nat) (i : Nat) (ths : List PT) (ds : List Dg) : Prop where
  c1 : ∀ (k : Nat) (d : Dg) (e : Nat), ds[k]? = some d → d.e = some e → cnt l d.b (e + 1) d.t ≤ B
  c2 : ∀ (k : Nat) (d : Dg), ds[k]? = some d → d.e = none → ∃ (nx ci : Nat) (t : Th), ths[d.t]? = some ⟨nx, some (ci, t)⟩ ∧ cnt l d.b i d.t ≤ t.pc
  th : ∀ (n nx ci : Nat) (t : Th), ths[n]? = some ⟨nx, some (ci, t)⟩ → t.over = false ∧ t.pc < (m.codes.getD ci []).length
theorem PKeeps.withFwd {m : Mach} {l : List Nat} {I : Nat → List PT → List Int → List Dg → Prop} (K : PKeeps m l I) {B : Nat} (hF : ∀ ci, Fwd (m.codes.getD ci []) ∧ (m.codes.getD ci []).length ≤ B) (hL : ∀ (n nx : Nat) (calls : List VCall) (c : VCall), m.threads[n]? = some calls → calls[nx]? = some c → (vbegin (m.codes.getD c.code []).length c.args).over = false ∧ (vbegin (m.codes.getD c.code []).length c.args).pc < (m.codes.getD c.code []).length) :
    PKeeps m l (fun i ths ws ds => I i ths ws ds ∧ FwdI m l B i ths ds) where
  idle := by
    intro i s n hi hD h hn
    refine ⟨K.idle i s n hi hD h.1 hn, h.2.c1, fun k d hk he => ?_, h.2.th⟩
    obtain ⟨nx, ci, t, h1, h2⟩ := h.2.c2 k d hk he
    refine ⟨nx, ci, t, h1, ?_⟩
    rw [cnt_next hi (Nat.le_of_lt (hD.time k d hk).1), if_neg, Nat.add_zero]
    · exact h2
    · intro e
      rw [← e] at h1
      exact absurd (hn _ h1) (by simp)
  begin_ := by
    intro i s n nx calls c hi hD h hn hc hcc
    refine ⟨K.begin_ i s n nx calls c hi hD h.1 hn hc hcc, fun k d e hk he => ?_, fun k d hk he => ?_, fun n' nx' ci t hn' => ?_⟩
    · rcases get_snoc hk with hk | ⟨_, rfl⟩
      · exact h.2.c1 k d e hk he
      · cases he
    · rcases get_snoc hk with hk | ⟨_, rfl⟩
      · obtain ⟨nx', ci, t, h1, h2⟩ := h.2.c2 k d hk he
        exact ⟨nx', ci, t, set_get h1 (fun e => hD.rest hn hk he e.symm) _, h2⟩
      · exact ⟨nx + 1, c.code, _, set_at hn _, by rw [cnt_self]; exact Nat.zero_le _⟩
    · rcases get_set hn' with ⟨e1, e⟩ | ⟨_, e⟩
      · injection e with e2 e; injection e with e; injection e with e3 e4
        subst e1 e2 e3 e4
        exact hL n' nx calls c hc hcc
      · exact h.2.th n' nx' ci t e
  cont := by
    intro i s n nx ci t hi hD h hn hov
    obtain ⟨h1, h2⟩ := h.2.th n nx ci t hn
    obtain ⟨g1, g2⟩ := vstep_fwd (hF ci).1 h1 h2 s.words hov
    refine ⟨K.cont i s n nx ci t hi hD h.1 hn hov, h.2.c1, fun k d hk he => ?_, fun n' nx' ci' t' hn' => ?_⟩
    · obtain ⟨nx', ci', t2, h3, h4⟩ := h.2.c2 k d hk he
      have hb := Nat.le_of_lt_succ (hD.time k d hk).1
      by_cases e : d.t = n
      · refine ⟨nx, ci, _, by rw [e]; exact set_at hn _, ?_⟩
        rw [cnt_next hi hb, if_pos e.symm]
        rw [e, hn] at h3
        injection h3 with h3; injection h3 with _ h3; injection h3 with h3; injection h3 with _ h3
        subst h3
        exact Nat.lt_of_le_of_lt h4 g1
      · exact ⟨nx', ci', t2, set_get h3 (fun e' => e e'.symm) _, by rw [cnt_next hi hb, if_neg (fun e' => e e'.symm)]; exact h4⟩
    · rcases get_set hn' with ⟨e1, e⟩ | ⟨_, e⟩
      · injection e with e2 e; injection e with e; injection e with e3 e4
        subst e1 e2 e3 e4
        exact ⟨hov, g2⟩
      · exact h.2.th n' nx' ci' t' e
  fin_ := by
    intro i s n nx ci t k0 d0 hi hD h hn hov hk0 ht0 hdc0 he0 htold
    obtain ⟨hK, herr⟩ := K.fin_ i s n nx ci t k0 d0 hi hD h.1 hn hov hk0 ht0 hdc0 he0 htold
    obtain ⟨h1, h2⟩ := h.2.th n nx ci t hn
    refine ⟨⟨hK, fun k d e hk he => ?_, fun k d hk he => ?_, fun n' nx' ci' t' hn' => ?_⟩, herr⟩
    · rcases get_set hk with ⟨rfl, rfl⟩ | ⟨hkk, hk⟩
      · simp only [Option.some.injEq] at he
        subst he
        obtain ⟨nx', ci', t2, h3, h4⟩ := h.2.c2 k d0 hk0 he0
        show cnt l d0.b (i + 1) d0.t ≤ B
        rw [cnt_next hi (Nat.le_of_lt_succ (hD.time k d0 hk0).1), if_pos ht0.symm]
        rw [ht0, hn] at h3
        injection h3 with h3; injection h3 with _ h3; injection h3 with h3; injection h3 with e3 h3
        subst h3
        have := (hF ci).2
        omega
      · exact h.2.c1 k d e hk he
    · rcases get_set hk with ⟨rfl, rfl⟩ | ⟨hkk, hk⟩
      · cases he
      · obtain ⟨nx', ci', t2, h3, h4⟩ := h.2.c2 k d hk he
        have hdn : d.t ≠ n := fun e => hkk (hD.own hn hk hk0 e ht0 he he0)
        exact ⟨nx', ci', t2, set_get h3 (fun e => hdn e.symm) _, by rw [cnt_next hi (Nat.le_of_lt_succ (hD.time k d hk).1), if_neg (fun e => hdn e.symm)]; exact h4⟩
    · rcases get_set hn' with ⟨_, e⟩ | ⟨_, e⟩
      · cases e
      · exact h.2.th n' nx' ci' t' e
theorem FwdI.start (m : Mach) (l : List Nat) (B : Nat) : FwdI m l B 0 (pinit m).ths [] := by
  refine ⟨fun k d e h => by simp at h, fun k d h => by simp at h, fun n nx ci t h => ?_⟩
  unfold pinit at h
  simp only [List.getElem?_replicate] at h
  split at h
  · injection h with h; injection h with _ h; cases h
  · cases h
/-- no call has more steps than its code has operations -/
theorem FwdI.most {m : Mach} {l : List Nat} {B : Nat} {ths : List PT} {ds : List Dg} (h : FwdI m l B l.length ths ds) (hB : ∀ ci, (m.codes.getD ci []).length ≤ B) {k : Nat} {d : Dg} (hk : ds[k]? = some d) : cnt l d.b (match d.e with | none => l.length | some e => e + 1) d.t ≤ B := by
  cases he : d.e with
  | none =>
    obtain ⟨nx, ci, t, h1, h2⟩ := h.c2 k d hk he
    have := (h.th _ _ _ _ h1).2
    have := hB ci
    show cnt l d.b l.length d.t ≤ B
    omega
  | some e => exact h.c1 k d e hk he
end Go.Proofs.YtiinnkdhccgelaaDoor
namespace Go.Proofs.YtiinnkdhccgelaaDoor
open Go.RowKit
set_option linter.unusedVariables false

/-! ### loads and stores -/
theorem vload {code : List Op5} {t : Th} {ws : List Int} (o : Op5) (ho : code[t.pc]? = some o) (hk : o.k = 13) (hov : t.over = false) (i : Nat) (hi : i < ws.length) (hw : wrap64 (vget t.regs o.b + o.c) = (i : Int)) :
    vstep code t ws = ({ t with regs := vset t.regs o.a (ws.getD i 0), pc := t.pc + 1, over := decide (t.pc + 1 = code.length) }, ws) := by
  unfold vstep
  rw [if_neg (by rw [hov]; decide), ho]
  simp only
  unfold vdo
  simp only [hk]
  unfold vother
  simp only [hk, hw]
  rw [if_neg (by decide), if_neg (by decide), if_neg (by decide), if_neg (by decide), if_neg (by decide), if_neg (by decide), if_neg (by decide), if_neg (by decide), if_neg (by decide), if_neg (by decide), if_neg (by decide), if_neg (by decide), if_neg (by decide), if_neg (by decide), if_neg (by omega), if_pos (by decide)]
  simp only [hov, Bool.false_or]
  rfl
theorem vstore {code : List Op5} {t : Th} {ws : List Int} (o : Op5) (ho : code[t.pc]? = some o) (hk : o.k = 14) (hov : t.over = false) (i : Nat) (hi : i < ws.length) (hw : wrap64 (vget t.regs o.b + o.c) = (i : Int)) :
    vstep code t ws = ({ t with pc := t.pc + 1, over := decide (t.pc + 1 = code.length) }, ws.set i (vget t.regs o.a)) := by
  unfold vstep
  rw [if_neg (by rw [hov]; decide), ho]
  simp only
  unfold vdo
  simp only [hk]
  unfold vother
  simp only [hk, hw]
  rw [if_neg (by decide), if_neg (by decide), if_neg (by decide), if_neg (by decide), if_neg (by decide), if_neg (by decide), if_neg (by decide), if_neg (by decide), if_neg (by decide), if_neg (by decide), if_neg (by decide), if_neg (by decide), if_neg (by decide), if_neg (by decide), if_neg (by omega), if_neg (by decide), if_pos (by decide)]
  simp only [hov, Bool.false_or]
  rfl

/-! ### the codes -/
def rputCode (N : Nat) : List Op5 := [⟨1, 1, 1, 0, 0⟩, ⟨1, 2, (N : Int), 0, 0⟩, ⟨13, 3, 4, 0, 0⟩, ⟨13, 5, 4, 1, 0⟩, ⟨4, 6, 3, 5, 0⟩, ⟨8, 7, 6, 2, 0⟩, ⟨11, 7, 13, 0, 0⟩, ⟨7, 8, 3, 2, 0⟩, ⟨14, 0, 8, 2, 0⟩, ⟨3, 3, 3, 1, 0⟩, ⟨14, 3, 4, 0, 0⟩, ⟨16, 1, 0, 0, 0⟩, ⟨17, 0, 0, 0, 0⟩, ⟨16, 4, 0, 0, 0⟩]
def rtakeCode (N : Nat) : List Op5 := [⟨1, 0, 1, 0, 0⟩, ⟨1, 1, (N : Int), 0, 0⟩, ⟨13, 2, 3, 0, 0⟩, ⟨13, 4, 3, 1, 0⟩, ⟨8, 5, 2, 4, 0⟩, ⟨11, 5, 12, 0, 0⟩, ⟨7, 6, 4, 1, 0⟩, ⟨13, 7, 6, 2, 0⟩, ⟨3, 4, 4, 0, 0⟩, ⟨14, 4, 3, 1, 0⟩, ⟨16, 7, 0, 0, 0⟩, ⟨17, 0, 0, 0, 0⟩, ⟨1, 7, -1, 0, 0⟩, ⟨16, 7, 0, 0, 0⟩]
def rPt (N p : Nat) (v a t n f x : Int) : Th := ⟨v :: 1 :: (N : Int) :: a :: 0 :: t :: n :: f :: x :: List.replicate 15 0, p, [], 0, false⟩
def rTt (N p : Nat) (a t e x y : Int) : Th := ⟨1 :: (N : Int) :: a :: 0 :: t :: e :: x :: y :: List.replicate 16 0, p, [], 0, false⟩
section
variable (N : Nat) (v a t n f x e y p q : Int) (ws : List Int)
theorem rp_0 : vstep (rputCode N) ⟨v :: List.replicate 23 0, 0, [], 0, false⟩ ws = (⟨v :: 1 :: List.replicate 22 0, 1, [], 0, false⟩, ws) := rfl
theorem rp_1 : vstep (rputCode N) ⟨v :: 1 :: List.replicate 22 0, 1, [], 0, false⟩ ws = (rPt N 2 v 0 0 0 0 0, ws) := rfl
theorem rp_2 : vstep (rputCode N) (rPt N 2 v a t n f x) (p :: q :: ws) = (rPt N 3 v p t n f x, p :: q :: ws) := vload ⟨13, 3, 4, 0, 0⟩ rfl rfl rfl 0 (by simp) (by show wrap64 ((0 : Int) + 0) = _; rw [wrap_mid (by decide) (by decide)]; rfl)
theorem rp_3 : vstep (rputCode N) (rPt N 3 v a t n f x) (p :: q :: ws) = (rPt N 4 v a q n f x, p :: q :: ws) := vload ⟨13, 5, 4, 1, 0⟩ rfl rfl rfl 1 (by simp) (by show wrap64 ((0 : Int) + 1) = _; rw [wrap_mid (by decide) (by decide)]; rfl)
theorem rp_4 : vstep (rputCode N) (rPt N 4 v a t n f x) ws = (rPt N 5 v a t (wrap64 (a - t)) f x, ws) := rfl
theorem rp_5 : vstep (rputCode N) (rPt N 5 v a t n f x) ws = (rPt N 6 v a t n (vflag (decide (n = (N : Int)))) x, ws) := rfl
theorem rp_6a : vstep (rputCode N) (rPt N 6 v a t n 1 x) ws = (rPt N 13 v a t n 1 x, ws) := rfl
theorem rp_6b : vstep (rputCode N) (rPt N 6 v a t n 0 x) ws = (rPt N 7 v a t n 0 x, ws) := rfl
theorem rp_7 (hN : 1 ≤ N) : vstep (rputCode N) (rPt N 7 v a t n f x) ws = (rPt N 8 v a t n f (Int.tmod a N), ws) := by
  unfold vstep vdo vother
  simp only [rPt, rputCode, List.getElem?_cons_succ, List.getElem?_cons_zero]
  simp [vget, vset, vquo]
  intro h0; omega
theorem rp_8 (j : Nat) (hj : j < ws.length) (hw : ws.length ≤ 100) : vstep (rputCode N) (rPt N 8 v a t n f (j : Int)) (p :: q :: ws) = (rPt N 9 v a t n f (j : Int), p :: q :: ws.set j v) :=
  vstore ⟨14, 0, 8, 2, 0⟩ rfl rfl rfl (j + 2) (by simp; omega) (by show wrap64 ((j : Int) + 2) = _; rw [wrap_mid (by omega) (by omega)]; omega)
theorem rp_9 : vstep (rputCode N) (rPt N 9 v a t n f x) ws = (rPt N 10 v (wrap64 (a + 1)) t n f x, ws) := rfl
theorem rp_10 : vstep (rputCode N) (rPt N 10 v a t n f x) (p :: q :: ws) = (rPt N 11 v a t n f x, a :: q :: ws) := vstore ⟨14, 3, 4, 0, 0⟩ rfl rfl rfl 0 (by simp) (by show wrap64 ((0 : Int) + 0) = _; rw [wrap_mid (by decide) (by decide)]; rfl)
theorem rp_11 : vstep (rputCode N) (rPt N 11 v a t n f x) ws = ({ rPt N 12 v a t n f x with told := [1] }, ws) := rfl
theorem rp_12 : vstep (rputCode N) { rPt N 12 v a t n f x with told := [1] } ws = ({ rPt N 13 v a t n f x with told := [1], over := true }, ws) := rfl
theorem rp_13 : vstep (rputCode N) (rPt N 13 v a t n f x) ws = ({ rPt N 14 v a t n f x with told := [0], over := true }, ws) := rfl
theorem rt_0 : vstep (rtakeCode N) ⟨List.replicate 24 0, 0, [], 0, false⟩ ws = (⟨1 :: List.replicate 23 0, 1, [], 0, false⟩, ws) := rfl
theorem rt_1 : vstep (rtakeCode N) ⟨1 :: List.replicate 23 0, 1, [], 0, false⟩ ws = (rTt N 2 0 0 0 0 0, ws) := rfl
theorem rt_2 : vstep (rtakeCode N) (rTt N 2 a t e x y) (p :: q :: ws) = (rTt N 3 p t e x y, p :: q :: ws) := vload ⟨13, 2, 3, 0, 0⟩ rfl rfl rfl 0 (by simp) (by show wrap64 ((0 : Int) + 0) = _; rw [wrap_mid (by decide) (by decide)]; rfl)
theorem rt_3 : vstep (rtakeCode N) (rTt N 3 a t e x y) (p :: q :: ws) = (rTt N 4 a q e x y, p :: q :: ws) := vload ⟨13, 4, 3, 1, 0⟩ rfl rfl rfl 1 (by simp) (by show wrap64 ((0 : Int) + 1) = _; rw [wrap_mid (by decide) (by decide)]; rfl)
theorem rt_4 : vstep (rtakeCode N) (rTt N 4 a t e x y) ws = (rTt N 5 a t (vflag (decide (a = t))) x y, ws) := rfl
theorem rt_5a : vstep (rtakeCode N) (rTt N 5 a t 1 x y) ws = (rTt N 12 a t 1 x y, ws) := rfl
theorem rt_5b : vstep (rtakeCode N) (rTt N 5 a t 0 x y) ws = (rTt N 6 a t 0 x y, ws) := rfl
theorem rt_6 (hN : 1 ≤ N) : vstep (rtakeCode N) (rTt N 6 a t e x y) ws = (rTt N 7 a t e (Int.tmod t N) y, ws) := by
  unfold vstep vdo vother
  simp only [rTt, rtakeCode, List.getElem?_cons_succ, List.getElem?_cons_zero]
  simp [vget, vset, vquo]
  intro h0; omega
theorem rt_7 (j : Nat) (hj : j < ws.length) (hw : ws.length ≤ 100) : vstep (rtakeCode N) (rTt N 7 a t e (j : Int) y) (p :: q :: ws) = (rTt N 8 a t e (j : Int) (ws.getD j 0), p :: q :: ws) := by
  have h := vload (code := rtakeCode N) (t := rTt N 7 a t e (j : Int) y) (ws := p :: q :: ws) ⟨13, 7, 6, 2, 0⟩ rfl rfl rfl (j + 2) (by simp; omega) (by show wrap64 ((j : Int) + 2) = _; rw [wrap_mid (by omega) (by omega)]; omega)
  rw [h]; rfl
theorem rt_8 : vstep (rtakeCode N) (rTt N 8 a t e x y) ws = (rTt N 9 a (wrap64 (t + 1)) e x y, ws) := rfl
theorem rt_9 : vstep (rtakeCode N) (rTt N 9 a t e x y) (p :: q :: ws) = (rTt N 10 a t e x y, p :: t :: ws) := vstore ⟨14, 4, 3, 1, 0⟩ rfl rfl rfl 1 (by simp) (by show wrap64 ((0 : Int) + 1) = _; rw [wrap_mid (by decide) (by decide)]; rfl)
theorem rt_10 : vstep (rtakeCode N) (rTt N 10 a t e x y) ws = ({ rTt N 11 a t e x y with told := [y] }, ws) := rfl
theorem rt_11 : vstep (rtakeCode N) { rTt N 11 a t e x y with told := [y] } ws = ({ rTt N 12 a t e x y with told := [y], over := true }, ws) := rfl
theorem rt_12 : vstep (rtakeCode N) (rTt N 12 a t e x y) ws = (rTt N 13 a t e x (-1), ws) := rfl
theorem rt_13 : vstep (rtakeCode N) (rTt N 13 a t e x y) ws = ({ rTt N 14 a t e x y with told := [y], over := true }, ws) := rfl
end
/-! ### the words -/
/-- so many were put, so many taken, and what lies there -/
structure RW (N P T : Nat) (sl l : List Int) : Prop where
  len : sl.length = N
  le : T ≤ P
  room : P ≤ T + N
  bd : P ≤ 20
  ll : l.length = P - T
  at_ : ∀ j, j < P - T → sl.getD ((T + j) % N) 0 = l.getD j 0
theorem mod_ne {N a b : Nat} (hN : 1 ≤ N) (h1 : a < b) (h2 : b < a + N) : a % N ≠ b % N := by
  intro e
  have h3 := Nat.div_add_mod a N
  have h4 := Nat.div_add_mod b N
  have h5 := Nat.mod_lt a hN
  rcases Nat.lt_trichotomy (a / N) (b / N) with h | h | h
  · have : N * (a / N + 1) ≤ N * (b / N) := Nat.mul_le_mul_left N h
    rw [Nat.mul_add] at this
    omega
  · rw [h] at h3; omega
  · have : N * (b / N + 1) ≤ N * (a / N) := Nat.mul_le_mul_left N h
    rw [Nat.mul_add] at this
    omega
theorem getD_set_ne {l : List Int} {i j : Nat} (h : i ≠ j) (v : Int) : (l.set i v).getD j 0 = l.getD j 0 := by
  rw [List.getD_eq_getElem?_getD, List.getD_eq_getElem?_getD, List.getElem?_set, if_neg h]
theorem getD_set_eq {l : List Int} {i : Nat} (h : i < l.length) (v : Int) : (l.set i v).getD i 0 = v := by
  rw [List.getD_eq_getElem?_getD, List.getElem?_set, if_pos rfl, if_pos h]; rfl
/-- a place is written that holds nothing -/
theorem RW.store {N P T : Nat} {sl l : List Int} (h : RW N P T sl l) (hN : 1 ≤ N) (hr : P < T + N) (v : Int) : RW N P T (sl.set (P % N) v) l ∧ (sl.set (P % N) v).getD (P % N) 0 = v := by
  refine ⟨⟨by rw [List.length_set]; exact h.len, h.le, h.room, h.bd, h.ll, fun j hj => ?_⟩, getD_set_eq (by rw [h.len]; exact Nat.mod_lt _ hN) v⟩
  rw [getD_set_ne, h.at_ j hj]
  exact fun e => mod_ne hN (show T + j < P by omega) (by omega) e.symm
theorem RW.put {N P T : Nat} {sl l : List Int} (h : RW N P T sl l) (hr : P < T + N) (hb : P < 20) {v : Int} (hv : sl.getD (P % N) 0 = v) : RW N (P + 1) T sl (l ++ [v]) := by
  have h1 := h.ll; have h2 := h.le
  refine ⟨h.len, by omega, by omega, by omega, by rw [List.length_append, h1, List.length_singleton]; omega, fun j hj => ?_⟩
  rw [List.getD_eq_getElem?_getD, List.getD_eq_getElem?_getD, List.getElem?_append]
  split
  · have := h.at_ j (by omega)
    rw [List.getD_eq_getElem?_getD, List.getD_eq_getElem?_getD] at this
    exact this
  · have e : j = P - T := by omega
    subst e
    rw [List.getD_eq_getElem?_getD] at hv
    rw [show T + (P - T) = P by omega, hv, h1, Nat.sub_self]; rfl
theorem RW.take {N P T : Nat} {sl l : List Int} (h : RW N P T sl l) (hr : T < P) : ∃ l', l = sl.getD (T % N) 0 :: l' ∧ RW N P (T + 1) sl l' := by
  have h1 := h.ll
  match l, h, h1 with
  | [], h, h1 => simp at h1; omega
  | y :: l', h, h1 =>
    refine ⟨l', ?_, h.len, by omega, by have := h.room; omega, h.bd, ?_, fun j hj => ?_⟩
    · have := h.at_ 0 (by omega)
      rw [Nat.add_zero] at this
      rw [this]; rfl
    · rw [List.length_cons] at h1; omega
    · have := h.at_ (j + 1) (by omega)
      rw [show T + 1 + j = T + (j + 1) by omega, this]; rfl
theorem RW.none {N P T : Nat} {sl l : List Int} (h : RW N P T sl l) : l = [] ↔ P = T := by
  have h1 := h.ll; have h2 := h.le
  constructor
  · rintro rfl; simp at h1; omega
  · rintro rfl; exact List.eq_nil_of_length_eq_zero (by omega)
/-! ### where a Put may be -/
inductive RPut (N v P T : Nat) (sl : List Int) : Ph → Th → Prop
  | p0 (h : P < v) : RPut N v P T sl .no ⟨(v : Int) :: List.replicate 23 0, 0, [], 0, false⟩
  | p1 (h : P < v) : RPut N v P T sl .no ⟨(v : Int) :: 1 :: List.replicate 22 0, 1, [], 0, false⟩
  | p2 (h : P < v) : RPut N v P T sl .no (rPt N 2 v 0 0 0 0 0)
  | p3 (h : P < v) : RPut N v P T sl .no (rPt N 3 v P 0 0 0 0)
  | p4r (t : Nat) (e : P = t + N) : RPut N v P T sl .ref (rPt N 4 v P t 0 0 0)
  | p4 (t : Nat) (h : P < v) (h1 : t ≤ P) (e : P < t + N) (h2 : t ≤ T) : RPut N v P T sl .no (rPt N 4 v P t 0 0 0)
  | p5r (t : Nat) : RPut N v P T sl .ref (rPt N 5 v P t N 0 0)
  | p5 (t n : Nat) (h : P < v) (e : n < N) (h2 : P < T + N) : RPut N v P T sl .no (rPt N 5 v P t n 0 0)
  | p6r (t : Nat) : RPut N v P T sl .ref (rPt N 6 v P t N 1 0)
  | p6 (t n : Nat) (h : P < v) (h2 : P < T + N) : RPut N v P T sl .no (rPt N 6 v P t n 0 0)
  | p7 (t n : Nat) (h : P < v) (h2 : P < T + N) : RPut N v P T sl .no (rPt N 7 v P t n 0 0)
  | p8 (t n : Nat) (h : P < v) (h2 : P < T + N) : RPut N v P T sl .no (rPt N 8 v P t n 0 ((P % N : Nat) : Int))
  | p9 (t n : Nat) (h : P < v) (h2 : P < T + N) (h3 : sl.getD (P % N) 0 = v) : RPut N v P T sl .no (rPt N 9 v P t n 0 ((P % N : Nat) : Int))
  | p10 (t n : Nat) (h : P < v) (h2 : P < T + N) (h3 : sl.getD (P % N) 0 = v) : RPut N v P T sl .no (rPt N 10 v ((P + 1 : Nat) : Int) t n 0 ((P % N : Nat) : Int))
  | p11 (a t n f x : Int) : RPut N v P T sl (.done v) (rPt N 11 v a t n f x)
  | p12 (a t n f x : Int) : RPut N v P T sl (.done v) { rPt N 12 v a t n f x with told := [1] }
  | p13 (a t n f x : Int) : RPut N v P T sl .ref (rPt N 13 v a t n f x)
/-- takes beside it do not matter -/
theorem RPut.other {N v P T : Nat} {sl : List Int} {ph : Ph} {t : Th} (h : RPut N v P T sl ph t) : RPut N v P (T + 1) sl ph t := by
  cases h with
  | p0 h => exact .p0 h
  | p1 h => exact .p1 h
  | p2 h => exact .p2 h
  | p3 h => exact .p3 h
  | p4r t e => exact .p4r t e
  | p4 t h h1 e h2 => exact .p4 t h h1 e (by omega)
  | p5r t => exact .p5r t
  | p5 t n h e h2 => exact .p5 t n h e (by omega)
  | p6r t => exact .p6r t
  | p6 t n h h2 => exact .p6 t n h (by omega)
  | p7 t n h h2 => exact .p7 t n h (by omega)
  | p8 t n h h2 => exact .p8 t n h (by omega)
  | p9 t n h h2 h3 => exact .p9 t n h (by omega) h3
  | p10 t n h h2 h3 => exact .p10 t n h (by omega) h3
  | p11 a t n f x => exact .p11 a t n f x
  | p12 a t n f x => exact .p12 a t n f x
  | p13 a t n f x => exact .p13 a t n f x
/-- what one step of a Put comes to -/
def RPStep (N v P T : Nat) (sl : List Int) (ph : Ph) (l : List Int) (r : Th × List Int) : Prop :=
  ∃ (ph' : Ph) (P' : Nat) (sl' l' : List Int), r.2 = (P' : Int) :: (T : Int) :: sl' ∧ RW N P' T sl' l' ∧ r.1.err = 0 ∧ (P' = P ∨ (P' = P + 1 ∧ P' ≤ v)) ∧ (∀ j, T ≤ j → j < P → sl'.getD (j % N) 0 = sl.getD (j % N) 0) ∧
    ((r.1.over = false ∧ OEff true N true v ph l ph' l' ∧ RPut N v P' T sl' ph' r.1) ∨ (r.1.over = true ∧ ph' = ph ∧ l' = l ∧ OTold true ph' r.1.told))
theorem rput_step {N v P T : Nat} {sl l : List Int} {ph : Ph} {t : Th} (hN : 1 ≤ N ∧ N ≤ 8) (hv : v ≤ 20) (h : RPut N v P T sl ph t) (hl : RW N P T sl l) : RPStep N v P T sl ph l (vstep (rputCode N) t ((P : Int) :: (T : Int) :: sl)) := by
  have stay : ∀ {t' : Th}, t'.err = 0 → t'.over = false → RPut N v P T sl ph t' → vstep (rputCode N) t ((P : Int) :: (T : Int) :: sl) = (t', (P : Int) :: (T : Int) :: sl) → RPStep N v P T sl ph l (vstep (rputCode N) t ((P : Int) :: (T : Int) :: sl)) := fun h1 h2 h3 h4 => by
    rw [h4]; exact ⟨ph, P, sl, l, rfl, hl, h1, .inl rfl, fun _ _ _ => rfl, .inl ⟨h2, .inl ⟨rfl, rfl⟩, h3⟩⟩
  have hb := hl.bd
  have hle := hl.le
  have hrm := hl.room
  have hll := hl.ll
  cases h with
  | p0 h => exact stay rfl rfl (.p1 h) (rp_0 ..)
  | p1 h => exact stay rfl rfl (.p2 h) (rp_1 ..)
  | p2 h => exact stay rfl rfl (.p3 h) (rp_2 ..)
  | p3 h =>
    rw [rp_3]
    rcases Nat.lt_or_ge P (T + N) with h1 | h1
    · exact ⟨.no, P, sl, l, rfl, hl, rfl, .inl rfl, fun _ _ _ => rfl, .inl ⟨rfl, .inl ⟨rfl, rfl⟩, .p4 T h hle h1 (Nat.le_refl _)⟩⟩
    · exact ⟨.ref, P, sl, l, rfl, hl, rfl, .inl rfl, fun _ _ _ => rfl, .inl ⟨rfl, .inr (.inr (.inr ⟨rfl, rfl, rfl, rfl, by omega⟩)), .p4r T (by omega)⟩⟩
  | p4r t e =>
    refine stay rfl rfl (.p5r t) ?_
    rw [rp_4, wrap_mid (by omega) (by omega), show (P : Int) - (t : Int) = (N : Int) by omega]
  | p4 t h h1 e h2 =>
    refine stay rfl rfl (.p5 t (P - t) h (by omega) (by omega)) ?_
    rw [rp_4, wrap_mid (by omega) (by omega), show (P : Int) - (t : Int) = ((P - t : Nat) : Int) by omega]
  | p5r t =>
    refine stay rfl rfl (.p6r t) ?_
    rw [rp_5, decide_eq_true rfl]; rfl
  | p5 t n h e h2 =>
    refine stay rfl rfl (.p6 t n h h2) ?_
    rw [rp_5, decide_eq_false (by omega)]; rfl
  | p6r t => exact stay rfl rfl (.p13 ..) (rp_6a ..)
  | p6 t n h h2 => exact stay rfl rfl (.p7 t n h h2) (rp_6b ..)
  | p7 t n h h2 =>
    refine stay rfl rfl (.p8 t n h h2) ?_
    rw [rp_7 _ _ _ _ _ _ _ _ hN.1, Int.tmod_eq_emod_of_nonneg (by omega), Int.natCast_emod]
  | p8 t n h h2 =>
    obtain ⟨a1, a2⟩ := hl.store hN.1 h2 (v : Int)
    rw [rp_8 _ _ _ _ _ _ _ _ _ _ (by rw [hl.len]; exact Nat.mod_lt _ hN.1) (by rw [hl.len]; omega)]
    exact ⟨.no, P, _, l, rfl, a1, rfl, .inl rfl, fun j h3 h4 => getD_set_ne (fun e => mod_ne hN.1 h4 (by omega) e.symm) _, .inl ⟨rfl, .inl ⟨rfl, rfl⟩, .p9 t n h h2 a2⟩⟩
  | p9 t n h h2 h3 =>
    refine stay rfl rfl (.p10 t n h h2 h3) ?_
    rw [rp_9, wrap_mid (by omega) (by omega)]; rfl
  | p10 t n h h2 h3 =>
    rw [rp_10]
    exact ⟨.done v, P + 1, sl, l ++ [(v : Int)], rfl, hl.put h2 (by omega) h3, rfl, .inr ⟨rfl, h⟩, fun _ _ _ => rfl, .inl ⟨rfl, .inr (.inl ⟨rfl, rfl, rfl, rfl⟩), .p11 ..⟩⟩
  | p11 a t n f x => exact stay rfl rfl (.p12 ..) (rp_11 ..)
  | p12 a t n f x => rw [rp_12]; exact ⟨.done v, P, sl, l, rfl, hl, rfl, .inl rfl, fun _ _ _ => rfl, .inr ⟨rfl, rfl, rfl, .inl ⟨v, rfl, rfl⟩⟩⟩
  | p13 a t n f x => rw [rp_13]; exact ⟨.ref, P, sl, l, rfl, hl, rfl, .inl rfl, fun _ _ _ => rfl, .inr ⟨rfl, rfl, rfl, .inr ⟨rfl, rfl, rfl⟩⟩⟩
/-! ### where a Take may be -/
inductive RTake (N P T : Nat) (sl : List Int) : Ph → Th → Prop
  | t0 : RTake N P T sl .no ⟨List.replicate 24 0, 0, [], 0, false⟩
  | t1 : RTake N P T sl .no ⟨1 :: List.replicate 23 0, 1, [], 0, false⟩
  | t2 : RTake N P T sl .no (rTt N 2 0 0 0 0 0)
  | t3e : RTake N P T sl (.done (-1)) (rTt N 3 T 0 0 0 0)
  | t3 (p : Nat) (h : T < p) (h1 : p ≤ P) : RTake N P T sl .no (rTt N 3 p 0 0 0 0)
  | t4e : RTake N P T sl (.done (-1)) (rTt N 4 T T 0 0 0)
  | t4 (p : Nat) (h : T < p) (h1 : p ≤ P) : RTake N P T sl .no (rTt N 4 p T 0 0 0)
  | t5e (a : Int) : RTake N P T sl (.done (-1)) (rTt N 5 a T 1 0 0)
  | t5 (a : Int) (h : T < P) : RTake N P T sl .no (rTt N 5 a T 0 0 0)
  | t6 (a : Int) (h : T < P) : RTake N P T sl .no (rTt N 6 a T 0 0 0)
  | t7 (a : Int) (h : T < P) : RTake N P T sl .no (rTt N 7 a T 0 ((T % N : Nat) : Int) 0)
  | t8 (a y : Int) (h : T < P) (h1 : sl.getD (T % N) 0 = y) : RTake N P T sl .no (rTt N 8 a T 0 ((T % N : Nat) : Int) y)
  | t9 (a y : Int) (h : T < P) (h1 : sl.getD (T % N) 0 = y) : RTake N P T sl .no (rTt N 9 a ((T + 1 : Nat) : Int) 0 ((T % N : Nat) : Int) y)
  | t10 (a t e x y : Int) : RTake N P T sl (.done y) (rTt N 10 a t e x y)
  | t11 (a t e x y : Int) : RTake N P T sl (.done y) { rTt N 11 a t e x y with told := [y] }
  | t12 (a t e x y : Int) : RTake N P T sl (.done (-1)) (rTt N 12 a t e x y)
  | t13 (a t e x : Int) : RTake N P T sl (.done (-1)) (rTt N 13 a t e x (-1))
/-- puts beside it do not matter -/
theorem RTake.other {N P T P' : Nat} {sl sl' : List Int} {ph : Ph} {t : Th} (h : RTake N P T sl ph t) (hP : P ≤ P') (hs : ∀ j, T ≤ j → j < P → sl'.getD (j % N) 0 = sl.getD (j % N) 0) : RTake N P' T sl' ph t := by
  cases h with
  | t0 => exact .t0
  | t1 => exact .t1
  | t2 => exact .t2
  | t3e => exact .t3e
  | t3 p h h1 => exact .t3 p h (by omega)
  | t4e => exact .t4e
  | t4 p h h1 => exact .t4 p h (by omega)
  | t5e a => exact .t5e a
  | t5 a h => exact .t5 a (by omega)
  | t6 a h => exact .t6 a (by omega)
  | t7 a h => exact .t7 a (by omega)
  | t8 a y h h1 => exact .t8 a y (by omega) (by rw [hs T (Nat.le_refl _) h, h1])
  | t9 a y h h1 => exact .t9 a y (by omega) (by rw [hs T (Nat.le_refl _) h, h1])
  | t10 a t e x y => exact .t10 a t e x y
  | t11 a t e x y => exact .t11 a t e x y
  | t12 a t e x y => exact .t12 a t e x y
  | t13 a t e x => exact .t13 a t e x
/-- what one step of a Take comes to -/
def RTStep (N P T : Nat) (sl : List Int) (ph : Ph) (l : List Int) (r : Th × List Int) : Prop :=
  ∃ (ph' : Ph) (T' : Nat) (l' : List Int), r.2 = (P : Int) :: (T' : Int) :: sl ∧ RW N P T' sl l' ∧ r.1.err = 0 ∧ (T' = T ∨ T' = T + 1) ∧
    ((r.1.over = false ∧ OEff true N false 0 ph l ph' l' ∧ RTake N P T' sl ph' r.1) ∨ (r.1.over = true ∧ ph' = ph ∧ l' = l ∧ OTold false ph' r.1.told))
theorem rtake_step {N P T : Nat} {sl l : List Int} {ph : Ph} {t : Th} (hN : 1 ≤ N ∧ N ≤ 8) (h : RTake N P T sl ph t) (hl : RW N P T sl l) : RTStep N P T sl ph l (vstep (rtakeCode N) t ((P : Int) :: (T : Int) :: sl)) := by
  have stay : ∀ {t' : Th}, t'.err = 0 → t'.over = false → RTake N P T sl ph t' → vstep (rtakeCode N) t ((P : Int) :: (T : Int) :: sl) = (t', (P : Int) :: (T : Int) :: sl) → RTStep N P T sl ph l (vstep (rtakeCode N) t ((P : Int) :: (T : Int) :: sl)) := fun h1 h2 h3 h4 => by
    rw [h4]; exact ⟨ph, T, l, rfl, hl, h1, .inl rfl, .inl ⟨h2, .inl ⟨rfl, rfl⟩, h3⟩⟩
  have hb := hl.bd
  have hle := hl.le
  cases h with
  | t0 => exact stay rfl rfl .t1 (rt_0 ..)
  | t1 => exact stay rfl rfl .t2 (rt_1 ..)
  | t2 =>
    rw [rt_2]
    rcases Nat.lt_or_ge T P with h1 | h1
    · exact ⟨.no, T, l, rfl, hl, rfl, .inl rfl, .inl ⟨rfl, .inl ⟨rfl, rfl⟩, .t3 P h1 (Nat.le_refl _)⟩⟩
    · obtain rfl : P = T := by omega
      obtain rfl := hl.none.2 rfl
      exact ⟨.done (-1), P, [], rfl, hl, rfl, .inl rfl, .inl ⟨rfl, .inr (.inr (.inl ⟨rfl, rfl, rfl, rfl⟩)), .t3e⟩⟩
  | t3e => exact stay rfl rfl .t4e (rt_3 ..)
  | t3 p h h1 => exact stay rfl rfl (.t4 p h h1) (rt_3 ..)
  | t4e =>
    refine stay rfl rfl (.t5e T) ?_
    rw [rt_4, decide_eq_true rfl]; rfl
  | t4 p h h1 =>
    refine stay rfl rfl (.t5 p (by omega)) ?_
    rw [rt_4, decide_eq_false (by omega)]; rfl
  | t5e a => exact stay rfl rfl (.t12 ..) (rt_5a ..)
  | t5 a h => exact stay rfl rfl (.t6 a h) (rt_5b ..)
  | t6 a h =>
    refine stay rfl rfl (.t7 a h) ?_
    rw [rt_6 _ _ _ _ _ _ _ hN.1, Int.tmod_eq_emod_of_nonneg (by omega), Int.natCast_emod]
  | t7 a h => exact stay rfl rfl (.t8 a _ h rfl) (rt_7 _ _ _ _ _ _ _ _ _ (by rw [hl.len]; exact Nat.mod_lt _ hN.1) (by rw [hl.len]; omega))
  | t8 a y h h1 =>
    refine stay rfl rfl (.t9 a y h h1) ?_
    rw [rt_8, wrap_mid (by omega) (by omega)]; rfl
  | t9 a y h h1 =>
    rw [rt_9]
    obtain ⟨l', rfl, h2⟩ := hl.take h
    rw [h1]
    exact ⟨.done y, T + 1, l', rfl, h2, rfl, .inr rfl, .inl ⟨rfl, .inr (.inr (.inl ⟨rfl, rfl, rfl, rfl⟩)), .t10 ..⟩⟩
  | t10 a t e x y => exact stay rfl rfl (.t11 ..) (rt_10 ..)
  | t11 a t e x y => rw [rt_11]; exact ⟨.done y, T, l, rfl, hl, rfl, .inl rfl, .inr ⟨rfl, rfl, rfl, .inl ⟨y, rfl, rfl⟩⟩⟩
  | t12 a t e x y => exact stay rfl rfl (.t13 ..) (rt_12 ..)
  | t13 a t e x => rw [rt_13]; exact ⟨.done (-1), T, l, rfl, hl, rfl, .inl rfl, .inr ⟨rfl, rfl, rfl, .inl ⟨-1, rfl, rfl⟩⟩⟩
end Go.Proofs.YtiinnkdhccgelaaDoor
namespace Go.Proofs.YtiinnkdhccgelaaDoor
open Go.RowKit
set_option linter.unusedVariables false

/-- what happened: of which call of the run, whether it puts, what was put or taken, whether it was turned away -/
structure Lr where
  k : Nat
  put : Bool
  v : Int
  rf : Bool
/-- what is told of it -/
def rtold (x : Lr) : Int := if x.rf then 0 else if x.put then 1 else x.v
/-- one thing that happens -/
def RS1 (q : Bool) (N : Nat) (has : List Int) (x : Lr) (l : List Int) : Prop :=
  (x.rf = true ∧ x.put = true ∧ has.length = N ∧ l = has) ∨ (x.rf = false ∧ (otell q has x.put x.v).1 = x.v ∧ l = (otell q has x.put x.v).2)
def RSeq (q : Bool) (N : Nat) : List Int → List Lr → List Int → Prop
  | has, [], l => l = has
  | has, x :: H, l => ∃ m, RS1 q N has x m ∧ RSeq q N m H l
theorem RSeq.snoc {q : Bool} {N : Nat} {x : Lr} {l' : List Int} : ∀ {H : List Lr} {has l : List Int}, RSeq q N has H l → RS1 q N l x l' → RSeq q N has (H ++ [x]) l'
  | [], has, l, h, hx => by
    have h : l = has := h
    subst h
    exact ⟨l', hx, rfl⟩
  | y :: H, has, l, h, hx => by
    obtain ⟨m, h1, h2⟩ := h
    exact ⟨m, h1, RSeq.snoc h2 hx⟩
theorem RSeq.split {q : Bool} {N : Nat} : ∀ {H1 H2 : List Lr} {has l : List Int}, RSeq q N has (H1 ++ H2) l → ∃ m, RSeq q N has H1 m ∧ RSeq q N m H2 l
  | [], H2, has, l, h => ⟨has, rfl, h⟩
  | y :: H1, H2, has, l, h => by
    obtain ⟨m, h1, h2⟩ := h
    obtain ⟨m2, h3, h4⟩ := RSeq.split h2
    exact ⟨m2, ⟨m, h1, h3⟩, h4⟩
/-- how the log tells of a call -/
def RPh (H : List Lr) (k : Nat) : Ph → Prop
  | .no => ∀ x ∈ H, x.k ≠ k
  | .done v => ∃ x ∈ H, x.k = k ∧ x.rf = false ∧ x.v = v
  | .ref => ∃ x ∈ H, x.k = k ∧ x.rf = true
structure LJ (q : Bool) (N : Nat) (m : Mach) (P : VCall → Ph → Th → Prop) (i : Nat) (ths : List PT) (ds : List Dg) (H : List Lr) (l : List Int) : Prop where
  seq : RSeq q N [] H l
  nd : (H.map Lr.k).Nodup
  ent : ∀ x ∈ H, ∃ (d : Dg) (c : VCall), ds[x.k]? = some d ∧ callOf m d.t d.c = some c ∧ x.put = isPut c ∧ (x.put = true → x.v = argV c) ∧ d.b < i ∧ ∀ e, d.e = some e → d.told = [rtold x]
  call : ∀ (k : Nat) (d : Dg), ds[k]? = some d → ∃ c, callOf m d.t d.c = some c ∧ OkC c
  cov : ∀ (k : Nat) (d : Dg) (e : Nat), ds[k]? = some d → d.e = some e → ∃ x ∈ H, x.k = k
  rt : H.Pairwise fun x y => ∀ (dx dy : Dg) (e : Nat), ds[x.k]? = some dx → ds[y.k]? = some dy → dy.e = some e → dx.b < e
  th : ∀ (n nx ci : Nat) (t : Th), ths[n]? = some ⟨nx, some (ci, t)⟩ → 1 ≤ nx ∧ ∃ c ph, callOf m n (nx - 1) = some c ∧ ci = c.code ∧ P c ph t ∧ ∀ (k : Nat) (d : Dg), ds[k]? = some d → d.t = n → d.c = nx - 1 → RPh H k ph
theorem lr_uniq {H : List Lr} (hn : (H.map Lr.k).Nodup) {x y : Lr} (hx : x ∈ H) (hy : y ∈ H) (e : x.k = y.k) : x = y := by
  obtain ⟨a, ha⟩ := List.getElem?_of_mem hx
  obtain ⟨b, hb⟩ := List.getElem?_of_mem hy
  have h1 : (H.map Lr.k)[a]? = some x.k := by rw [List.getElem?_map, ha]; rfl
  have h2 : (H.map Lr.k)[b]? = some x.k := by rw [List.getElem?_map, hb, e]; rfl
  have hl := (List.getElem?_eq_some_iff.1 h1).1
  have hab : a = b := (List.getElem?_inj hl hn).1 (by rw [h1, h2])
  subst hab
  rw [ha] at hb
  injection hb
section
variable {q : Bool} {N : Nat} {m : Mach} {P : VCall → Ph → Th → Prop} {i : Nat} {ths : List PT} {ds : List Dg} {H : List Lr} {l : List Int}
/-- a step of a thread within its call -/
theorem LJ.own {P' : VCall → Ph → Th → Prop} (h : LJ q N m P i ths ds H l) {n k0 : Nat} {d0 : Dg} {p0 : PT} (hk0 : ds[k0]? = some d0) (hn : ths[n]? = some p0) (ht0 : d0.t = n) (he0 : d0.e = none)
    (hoP : ∀ (n' nx : Nat) (t : Th) (c : VCall) (ph : Ph), n' ≠ n → ths[n']? = some ⟨nx + 1, some (c.code, t)⟩ → callOf m n' nx = some c → P c ph t → P' c ph t)
    (huniq : ∀ (k : Nat) (d : Dg), ds[k]? = some d → d.t = n → d.c = d0.c → k = k0) (hb : ∀ (k : Nat) (d : Dg), ds[k]? = some d → d.b ≤ i)
    (p' : PT) (d1 : Dg) (hd : d1.b = d0.b ∧ d1.t = d0.t ∧ d1.c = d0.c) {c : VCall} (hc : callOf m n d0.c = some c) {ph ph' : Ph} {l' : List Int} (hph : RPh H k0 ph)
    (heff : OEff q N (isPut c) (argV c) ph l ph' l')
    (hp : ∀ ci t, p'.cur = some (ci, t) → d1 = d0 ∧ p'.next = d0.c + 1 ∧ ci = c.code ∧ P' c ph' t)
    (he1 : ∀ e, d1.e = some e → e = i ∧ ph' = ph ∧ l' = l ∧ OTold (isPut c) ph' d1.told) (hlN : l.length ≤ N) :
    ∃ H', LJ q N m P' (i + 1) (ths.set n p') (ds.set k0 d1) H' l' := by
  have hcall : callOf m d1.t d1.c = some c := by rw [hd.2.1, hd.2.2, ht0]; exact hc
  have hcall0 : callOf m d0.t d0.c = some c := by rw [ht0]; exact hc
  have hget : ∀ {k : Nat} {d : Dg}, (ds.set k0 d1)[k]? = some d → (k = k0 ∧ d = d1) ∨ (k ≠ k0 ∧ ds[k]? = some d) := fun h => get_set h
  have hcallD : ∀ (k : Nat) (d : Dg), (ds.set k0 d1)[k]? = some d → ∃ c, callOf m d.t d.c = some c ∧ OkC c := fun k d hk => by
    rcases hget hk with ⟨_, rfl⟩ | ⟨_, hk⟩
    · rw [hd.2.1, hd.2.2]; exact h.call k0 d0 hk0
    · exact h.call k d hk
  have hentb : ∀ x ∈ H, ∀ dx, ds[x.k]? = some dx → dx.b < i := fun x hx dx hdx => by
    obtain ⟨d, c', b1, b2, b3, b4, b5, b6⟩ := h.ent x hx
    rw [hdx] at b1; injection b1 with b1; subst b1; exact b5
  -- the threads
  have hthr : ∀ {H' : List Lr}, (d1 = d0 → RPh H' k0 ph') → (∀ x, x ∈ H → x ∈ H') → (∀ x, x ∈ H' → x ∈ H ∨ x.k = k0) → ∀ (n' nx ci : Nat) (t : Th), (ths.set n p')[n']? = some ⟨nx, some (ci, t)⟩ → 1 ≤ nx ∧ ∃ c ph, callOf m n' (nx - 1) = some c ∧ ci = c.code ∧ P' c ph t ∧ ∀ (k : Nat) (d : Dg), (ds.set k0 d1)[k]? = some d → d.t = n' → d.c = nx - 1 → RPh H' k ph := by
    intro H' h0 hs hs2 n' nx ci t hn'
    rcases get_set hn' with ⟨e1, e2⟩ | ⟨hne, ht⟩
    · subst e1
      obtain ⟨b1, b2, b3, b4⟩ := hp ci t (by rw [← e2])
      rw [← e2] at b2
      have b2 : nx = d0.c + 1 := b2
      refine ⟨by omega, c, ph', by rw [b2, Nat.add_sub_cancel]; exact hc, b3, b4, fun k d hk hdt hdc => ?_⟩
      rw [b2, Nat.add_sub_cancel] at hdc
      have hst : ds.set k0 d1 = ds := by rw [b1]; exact setSelf hk0
      rw [hst] at hk
      have hkk := huniq k d hk hdt hdc
      subst hkk
      exact h0 b1
    · obtain ⟨a1, c', ph2, a2, a3, a4, a5⟩ := h.th n' nx ci t ht
      have a4' : P' c' ph2 t := hoP n' (nx - 1) t c' ph2 hne (by rw [show nx - 1 + 1 = nx by omega, ← a3]; exact ht) a2 a4
      refine ⟨a1, c', ph2, a2, a3, a4', fun k d hk hdt hdc => ?_⟩
      rcases hget hk with ⟨e1, e2⟩ | ⟨hkk, hk⟩
      · subst e2; exact absurd (by rw [← hdt, hd.2.1, ht0]) hne
      · have := a5 k d hk hdt hdc
        cases ph2 with
        | no =>
          intro x hx
          rcases hs2 x hx with h1 | h1
          · exact this x h1
          · rw [h1]; exact fun e => hkk e.symm
        | done v => obtain ⟨x, b1, b2⟩ := this; exact ⟨x, hs x b1, b2⟩
        | ref => obtain ⟨x, b1, b2⟩ := this; exact ⟨x, hs x b1, b2⟩
  -- what happened already
  have hsame : l' = l → ph' = ph → LJ q N m P' (i + 1) (ths.set n p') (ds.set k0 d1) H l' := by
    intro hl hpp
    subst hl hpp
    refine ⟨h.seq, h.nd, fun x hx => ?_, hcallD, fun k d e hk he => ?_, h.rt.imp_of_mem fun {x y} hx hy hxy dx dy e h1 h2 h3 => ?_, hthr (fun _ => hph) (fun x h => h) (fun x h => .inl h)⟩
    · obtain ⟨d, c', b1, b2, b3, b4, b5, b6⟩ := h.ent x hx
      by_cases e : x.k = k0
      · have b1' := b1
        rw [e, hk0] at b1'; injection b1' with b1'; subst b1'
        rw [hcall0] at b2; injection b2 with b2; subst b2
        refine ⟨d1, c, by rw [e]; exact set_at hk0 _, hcall, b3, b4, by rw [hd.1]; omega, fun e2 he2 => ?_⟩
        obtain ⟨_, _, _, c2⟩ := he1 e2 he2
        rcases c2 with ⟨v, c2, c3⟩ | ⟨_, c2, c3⟩
        · subst c2
          obtain ⟨y, hy, hy1, hy2, hy3⟩ := hph
          have := lr_uniq h.nd hx hy (by rw [e, hy1])
          subst this
          rw [c3, ← b3, ← hy3]
          unfold rtold
          rw [hy2]; rfl
        · subst c2
          obtain ⟨y, hy, hy1, hy2⟩ := hph
          have := lr_uniq h.nd hx hy (by rw [e, hy1])
          subst this
          rw [c3]
          unfold rtold
          rw [if_pos hy2]
      · exact ⟨d, c', set_get b1 (fun e' => e e'.symm) _, b2, b3, b4, by omega, b6⟩
    · rcases hget hk with ⟨e1, e2⟩ | ⟨hkk, hk⟩
      · subst e1 e2
        obtain ⟨_, _, _, c2⟩ := he1 e he
        rcases c2 with ⟨v, c2, c3⟩ | ⟨c4, c2, c3⟩
        · subst c2
          obtain ⟨y, hy, hy1, hy2⟩ := hph
          exact ⟨y, hy, hy1⟩
        · subst c2
          obtain ⟨y, hy, hy1, hy2⟩ := hph
          exact ⟨y, hy, hy1⟩
      · exact h.cov k d e hk he
    · rcases hget h2 with ⟨_, e2⟩ | ⟨f2, h2⟩
      · rw [e2] at h3
        rw [(he1 e h3).1]
        rcases hget h1 with ⟨e3, e1⟩ | ⟨_, h1⟩
        · rw [e1, hd.1]; exact hentb x hx d0 (by rw [e3]; exact hk0)
        · exact hentb x hx dx h1
      · rcases hget h1 with ⟨e3, e1⟩ | ⟨_, h1⟩
        · rw [e1, hd.1]; exact hxy d0 dy e (by rw [e3]; exact hk0) h2 h3
        · exact hxy dx dy e h1 h2 h3
  -- a new thing
  have hnew : ph = .no → (∀ e, d1.e ≠ some e) → ∀ z : Lr, z.k = k0 → z.put = isPut c → (z.put = true → z.v = argV c) → RS1 q N l z l' → (RPh (H ++ [z]) k0 ph') → LJ q N m P' (i + 1) (ths.set n p') (ds.set k0 d1) (H ++ [z]) l' := by
    intro e1 hne z z1 z2 z3 z4 z5
    subst e1
    have hph : ∀ x ∈ H, x.k ≠ k0 := hph
    refine ⟨h.seq.snoc z4, ?_, fun x hx => ?_, hcallD, fun k d e hk he => ?_, ?_, hthr (fun _ => z5) (fun x h => List.mem_append_left _ h) (fun x h => ?_)⟩
    · rw [List.map_append, List.nodup_append]
      refine ⟨h.nd, by simp, fun a ha b hb2 => ?_⟩
      simp only [List.map_cons, List.map_nil, List.mem_singleton] at hb2
      obtain ⟨x, hx, rfl⟩ := List.mem_map.1 ha
      rw [hb2, z1]; exact hph x hx
    · rcases List.mem_append.1 hx with hx | hx
      · obtain ⟨d, c', b1, b2, b3, b4, b5, b6⟩ := h.ent x hx
        exact ⟨d, c', set_get b1 (fun e' => hph x hx e'.symm) _, b2, b3, b4, by omega, b6⟩
      · rw [List.mem_singleton.1 hx]
        exact ⟨d1, c, by rw [z1]; exact set_at hk0 _, hcall, z2, z3, by rw [hd.1]; exact Nat.lt_succ_of_le (hb k0 d0 hk0), fun e he => absurd he (hne e)⟩
    · rcases hget hk with ⟨f1, f2⟩ | ⟨hkk, hk⟩
      · subst f1 f2; exact absurd he (hne e)
      · obtain ⟨x, h1, h2⟩ := h.cov k d e hk he
        exact ⟨x, List.mem_append_left _ h1, h2⟩
    · rw [List.pairwise_append]
      refine ⟨h.rt.imp_of_mem fun {x y} hx hy hxy dx dy e h1 h2 h3 => ?_, by simp, fun x hx y hy dx dy e h1 h2 h3 => ?_⟩
      · rcases hget h1 with ⟨f1, _⟩ | ⟨_, h1⟩
        · exact absurd f1 (hph x hx)
        · rcases hget h2 with ⟨f1, _⟩ | ⟨_, h2⟩
          · exact absurd f1 (hph y hy)
          · exact hxy dx dy e h1 h2 h3
      · rw [List.mem_singleton.1 hy, z1] at h2
        rcases hget h2 with ⟨_, f2⟩ | ⟨f1, _⟩
        · rw [f2] at h3; exact absurd h3 (hne e)
        · exact absurd rfl f1
    · rcases List.mem_append.1 h with h1 | h1
      · exact .inl h1
      · rw [List.mem_singleton.1 h1]; exact .inr z1
  rcases heff with ⟨f1, f2⟩ | ⟨f1, f2, f3, f4⟩ | ⟨f1, f2, f3, f4⟩ | ⟨f1, f2, f3, f4, f5⟩
  · exact ⟨H, hsame f2 f1⟩
  · have hne : ∀ e, d1.e ≠ some e := fun e he => by rw [(he1 e he).2.1, f1] at f3; cases f3
    refine ⟨_, hnew f1 hne ⟨k0, isPut c, argV c, false⟩ rfl rfl (fun _ => rfl) (.inr ⟨rfl, by show (otell q l (isPut c) (argV c)).1 = argV c; rw [f2]; rfl, by show l' = (otell q l (isPut c) (argV c)).2; rw [f4, f2]; rfl⟩) ?_⟩
    rw [f3]; exact ⟨_, List.mem_append_right _ (List.mem_singleton.2 rfl), rfl, rfl, rfl⟩
  · have hne : ∀ e, d1.e ≠ some e := fun e he => by rw [(he1 e he).2.1, f1] at f3; cases f3
    refine ⟨_, hnew f1 hne ⟨k0, isPut c, (otell q l false 0).1, false⟩ rfl rfl (fun hx => by have hx : isPut c = true := hx; rw [f2] at hx; cases hx) (.inr ⟨rfl, by show (otell q l (isPut c) (otell q l false 0).1).1 = (otell q l false 0).1; rw [f2]; rfl, by show l' = (otell q l (isPut c) (otell q l false 0).1).2; rw [f4, f2]; rfl⟩) ?_⟩
    rw [f3]; exact ⟨_, List.mem_append_right _ (List.mem_singleton.2 rfl), rfl, rfl, rfl⟩
  · have hne : ∀ e, d1.e ≠ some e := fun e he => by rw [(he1 e he).2.1, f1] at f3; cases f3
    refine ⟨_, hnew f1 hne ⟨k0, isPut c, argV c, true⟩ rfl rfl (fun _ => rfl) (.inl ⟨rfl, f2, Nat.le_antisymm hlN f5, f4⟩) ?_⟩
    rw [f3]; exact ⟨_, List.mem_append_right _ (List.mem_singleton.2 rfl), rfl, rfl⟩
end
/-- what every run of an object keeps -/
theorem rlog_keeps {q : Bool} {N : Nat} {m : Mach} {P : List Int → VCall → Ph → Th → Prop} {G : List PT → List Int → List Int → Prop} (M : ObjM q N m P G) (hGN : ∀ ths ws l, G ths ws l → l.length ≤ N) (l : List Nat) : PKeeps m l (fun i ths ws ds => ∃ H s, G ths ws s ∧ LJ q N m (P ws) i ths ds H s) where
  idle := by
    rintro i s n hi hD ⟨H, x, hG, h⟩ hn
    refine ⟨H, x, hG, h.seq, h.nd, fun y hy => ?_, h.call, h.cov, h.rt, fun n nx ci t ht => ?_⟩
    · obtain ⟨d, c, b1, b2, b3, b4, b5, b6⟩ := h.ent y hy
      exact ⟨d, c, b1, b2, b3, b4, by omega, b6⟩
    · obtain ⟨a1, c, ph, a2, a3, a4, a5⟩ := h.th n nx ci t ht
      refine ⟨a1, c, ph, a2, a3, a4, fun k d hk h1 h2 => ?_⟩
      exact a5 k d hk h1 h2
  begin_ := by
    rintro i s n nx calls c hi hD ⟨H, x, hG, h⟩ hn hc hcc
    have hcall : callOf m n nx = some c := by unfold callOf; rw [hc]; exact hcc
    obtain ⟨hP, hG'⟩ := M.beg _ _ _ n nx c hG hn hcall
    have hb : ∀ (k : Nat) (d : Dg), (doings s.evs)[k]? = some d → d.b < i := fun k d hk => (hD.time k d hk).1
    have hHl : ∀ y ∈ H, y.k < (doings s.evs).length := fun y hy => by
      obtain ⟨d, c, b1, _⟩ := h.ent y hy
      exact (List.getElem?_eq_some_iff.1 b1).1
    refine ⟨H, x, hG', h.seq, h.nd, fun y hy => ?_, fun k d hk => ?_, fun k d e hk he => ?_, h.rt.imp_of_mem fun {y z} hy hz hyz dx dy e h1 h2 h3 => ?_, fun n' nx' ci t ht => ?_⟩
    · obtain ⟨d, c, b1, b2⟩ := h.ent y hy
      exact ⟨d, c, snoc_get b1 _, b2⟩
    · rcases get_snoc hk with hk | ⟨_, rfl⟩
      · exact h.call k d hk
      · exact ⟨c, hcall, M.call n nx c hcall⟩
    · rcases get_snoc hk with hk | ⟨_, rfl⟩
      · exact h.cov k d e hk he
      · cases he
    · rcases get_snoc h1 with h1 | ⟨f1, _⟩
      · rcases get_snoc h2 with h2 | ⟨f1, _⟩
        · exact hyz dx dy e h1 h2 h3
        · have := hHl z hz; omega
      · have := hHl y hy; omega
    · rcases get_set ht with ⟨e1, e2⟩ | ⟨e1, e2⟩
      · injection e2 with e3 e4; injection e4 with e4; injection e4 with e4 e5
        subst e1 e3 e4 e5
        refine ⟨by omega, c, .no, by rw [Nat.add_sub_cancel]; exact hcall, rfl, hP, fun k d hk h1 h2 y hy => ?_⟩
        rw [Nat.add_sub_cancel] at h2
        rcases get_snoc hk with hk | ⟨f1, _⟩
        · obtain ⟨p, hp, h3, _⟩ := hD.lt k d hk
          rw [h1, hn] at hp; injection hp with hp; subst hp
          simp only at h3; omega
        · have := hHl y hy; omega
      · obtain ⟨a1, c', ph, a2, a3, a4, a5⟩ := h.th n' nx' ci t e2
        refine ⟨a1, c', ph, a2, a3, a4, fun k d hk h1 h2 => ?_⟩
        rcases get_snoc hk with hk | ⟨_, rfl⟩
        · exact a5 k d hk h1 h2
        · exact absurd h1.symm e1
  cont := by
    rintro i s n nx ci t hi hD ⟨H, x, hG, h⟩ hn hov
    obtain ⟨k0, d0, hk0, ht0, hdc0, he0, _⟩ := hD.cur hn rfl
    have hdc0 : d0.c = nx - 1 := hdc0
    obtain ⟨a1, c, ph, a2, a3, a4, a5⟩ := h.th n nx ci t hn
    subst a3
    obtain ⟨nx, rfl⟩ : ∃ y, nx = y + 1 := ⟨nx - 1, by omega⟩
    rw [Nat.add_sub_cancel] at hdc0 a2 a5
    have hb : ∀ (k : Nat) (d : Dg), (doings s.evs)[k]? = some d → d.b ≤ i := fun k d hk => Nat.le_of_lt_succ (hD.time k d hk).1
    obtain ⟨hoP, ph', l', e1, e2⟩ := M.act _ _ _ n nx t c ph hG hn a2 a4
    rcases e2 with ⟨f1, f2, f3, f4⟩ | ⟨f1, _⟩
    · obtain ⟨H', hL⟩ := h.own hk0 hn ht0 he0 hoP (fun k d hk h1 h2 => hD.uniq k k0 d d0 hk hk0 (by rw [h1, ht0]) h2) hb ⟨nx + 1, some (c.code, (vstep (m.codes.getD c.code []) t s.words).1)⟩ d0 ⟨rfl, rfl, rfl⟩ (by rw [hdc0]; exact a2) (a5 k0 d0 hk0 ht0 hdc0) f2
        (fun ci t2 e => by injection e with e; injection e with g1 g2; subst g1 g2; exact ⟨rfl, by rw [hdc0], rfl, f3⟩) (fun e he => by rw [he0] at he; cases he) (hGN _ _ _ hG)
      rw [setSelf hk0] at hL
      exact ⟨H', l', f4, hL⟩
    · rw [f1] at hov; cases hov
  fin_ := by
    rintro i s n nx ci t k0 d0 hi hD ⟨H, x, hG, h⟩ hn hov hk0 ht0 hdc0 he0 htold
    obtain ⟨a1, c, ph, a2, a3, a4, a5⟩ := h.th n nx ci t hn
    subst a3
    obtain ⟨nx, rfl⟩ : ∃ y, nx = y + 1 := ⟨nx - 1, by omega⟩
    rw [Nat.add_sub_cancel] at hdc0 a2 a5
    have hb : ∀ (k : Nat) (d : Dg), (doings s.evs)[k]? = some d → d.b ≤ i := fun k d hk => Nat.le_of_lt_succ (hD.time k d hk).1
    obtain ⟨hoP, ph', l', e1, e2⟩ := M.act _ _ _ n nx t c ph hG hn a2 a4
    rcases e2 with ⟨f1, _⟩ | ⟨f1, f2, f3, f4, f5⟩
    · rw [f1] at hov; cases hov
    · obtain ⟨H', hL⟩ := h.own hk0 hn ht0 he0 hoP (fun k d hk h1 h2 => hD.uniq k k0 d d0 hk hk0 (by rw [h1, ht0]) h2) hb ⟨nx + 1, none⟩ { d0 with e := some i, told := (vstep (m.codes.getD c.code []) t s.words).1.told } ⟨rfl, rfl, rfl⟩ (by rw [hdc0]; exact a2) (a5 k0 d0 hk0 ht0 hdc0) (.inl ⟨f2, f3⟩)
        (fun ci t2 e => by cases e) (fun e he => by injection he with he; exact ⟨he.symm, f2, f3, f4⟩) (hGN _ _ _ hG)
      exact ⟨⟨H', l', f5, hL⟩, e1⟩
theorem rlog_play {q : Bool} {N : Nat} {m : Mach} {P : List Int → VCall → Ph → Th → Prop} {G : List PT → List Int → List Int → Prop} (M : ObjM q N m P G) (hGN : ∀ ths ws l, G ths ws l → l.length ≤ N) (hG : G (pinit m).ths m.words []) (l : List Nat) :
    (∃ H s, G (play m l).ths (play m l).words s ∧ LJ q N m (P (play m l).words) l.length (play m l).ths (doings (play m l).evs) H s) ∧ NoErr (play m l).evs := by
  refine (rlog_keeps M hGN l).play ⟨[], [], hG, rfl, by simp, fun x hx => by simp at hx, fun k d h => by simp at h, fun k d e h => by simp at h, by simp, fun n nx ci t h => ?_⟩
  unfold pinit at h
  simp only [List.getElem?_replicate] at h
  split at h
  · injection h with h; injection h with _ h; cases h
  · cases h
end Go.Proofs.YtiinnkdhccgelaaDoor
namespace Go.Proofs.YtiinnkdhccgelaaDoor
open Go.RowKit
set_option linter.unusedVariables false

def rgPuts (n : Nat) : List VCall := (List.range n).map fun i => ⟨0, [((i + 1 : Nat) : Int)]⟩
def rgTakes (n : Nat) : List VCall := (List.range n).map fun _ => ⟨1, []⟩
/-- the calls of thread j among the first k rounds -/
def rgths (k j : Nat) : List VCall := if j = 0 then rgPuts k else if j = 1 then rgTakes k else []
theorem rgths_len {k j : Nat} (h : j < 2) : (rgths k j).length = k := by
  unfold rgths
  rcases (show j = 0 ∨ j = 1 by omega) with rfl | rfl
  · simp [rgPuts]
  · simp [rgTakes]
theorem rgths_upd (k : Nat) : upd (upd (rgths k) 0 (rgths k 0 ++ [⟨0, [((k + 1 : Nat) : Int)]⟩])) 1 (upd (rgths k) 0 (rgths k 0 ++ [⟨0, [((k + 1 : Nat) : Int)]⟩]) 1 ++ [⟨1, []⟩]) = rgths (k + 1) := by
  funext j
  rcases (show j = 0 ∨ j = 1 ∨ 2 ≤ j by omega) with rfl | rfl | h
  · rw [upd_ne _ _ _ _ (by decide), upd_same]
    show rgPuts k ++ _ = rgPuts (k + 1)
    unfold rgPuts
    rw [List.range_succ, List.map_append]; rfl
  · rw [upd_same, upd_ne _ _ _ _ (by decide)]
    show rgTakes k ++ _ = rgTakes (k + 1)
    unfold rgTakes
    rw [List.range_succ, List.map_append]; rfl
  · rw [upd_ne _ _ _ _ (by omega), upd_ne _ _ _ _ (by omega)]
    unfold rgths
    rw [if_neg (by omega), if_neg (by omega), if_neg (by omega), if_neg (by omega)]
def rgM (N : Nat) : Mach := ⟨List.replicate (N + 2) 0, [rputCode N, rtakeCode N], (List.range 2).map (rgths 20)⟩
theorem rput_sh (N : Nat) (hN : N ≤ 8) : ∀ o ∈ rputCode N, OpSh (rputCode N).length o := by
  intro o ho
  rw [show (rputCode N).length = 14 from rfl]
  simp only [rputCode, List.mem_cons, List.not_mem_nil, or_false] at ho
  rcases ho with rfl | rfl | rfl | rfl | rfl | rfl | rfl | rfl | rfl | rfl | rfl | rfl | rfl | rfl <;> first | exact ⟨by decide, by decide, by decide, by decide, by decide⟩ | exact ⟨by simp, by simp, by simp, by simp, by simp⟩
theorem rtake_sh (N : Nat) (hN : N ≤ 8) : ∀ o ∈ rtakeCode N, OpSh (rtakeCode N).length o := by
  intro o ho
  rw [show (rtakeCode N).length = 14 from rfl]
  simp only [rtakeCode, List.mem_cons, List.not_mem_nil, or_false] at ho
  rcases ho with rfl | rfl | rfl | rfl | rfl | rfl | rfl | rfl | rfl | rfl | rfl | rfl | rfl | rfl <;> first | exact ⟨by decide, by decide, by decide, by decide, by decide⟩ | exact ⟨by simp, by simp, by simp, by simp, by simp⟩
theorem rgM_at {B : Nat} {w : World} {N Cb T : Nat} {cv tv : Nat → Value} {av : Nat → List SV} (hN : N ≤ 8) (h : MN B w 2 2 Cb T cv (fun i => [rputCode N, rtakeCode N].getD i []) tv (rgths 20) av) : MachAt w (some ⟨Cb, 0, none⟩) 2 (some ⟨T, 0, none⟩) 2 (rgM N) := by
  refine h.at_ rfl rfl (fun i hi => ?_) (fun j hj => ⟨by rw [rgths_len hj]; decide, fun c hc => ?_⟩)
  · rcases (show i = 0 ∨ i = 1 by omega) with rfl | rfl
    · exact ⟨Nat.le_of_ble_eq_true rfl, rput_sh N hN⟩
    · exact ⟨Nat.le_of_ble_eq_true rfl, rtake_sh N hN⟩
  · rcases (show j = 0 ∨ j = 1 by omega) with rfl | rfl
    · obtain ⟨i, _, rfl⟩ := List.mem_map.1 (show c ∈ rgPuts 20 from hc)
      exact ⟨by simp, by simp⟩
    · obtain ⟨i, _, rfl⟩ := List.mem_map.1 (show c ∈ rgTakes 20 from hc)
      exact ⟨by simp, by simp⟩
end Go.Proofs.YtiinnkdhccgelaaDoor
namespace Go.Proofs.YtiinnkdhccgelaaDoor
open Go.RowKit
set_option linter.unusedVariables false

theorem rlog_play2 {q : Bool} {N : Nat} {m : Mach} {P : List Int → VCall → Ph → Th → Prop} {G : List PT → List Int → List Int → Prop} (M : ObjM q N m P G) (hGN : ∀ ths ws l, G ths ws l → l.length ≤ N) (hG : G (pinit m).ths m.words []) (l : List Nat) :
    (∃ H s, G (play m l).ths (play m l).words s ∧ LJ q N m (P (play m l).words) l.length (play m l).ths (doings (play m l).evs) H s) ∧ SeqDs (doings (play m l).evs) ∧ NoErr (play m l).evs := by
  have h := (rlog_keeps M hGN l).withSeq.play ⟨⟨[], [], hG, rfl, by simp, fun x hx => by simp at hx, fun k d h => by simp at h, fun k d e h => by simp at h, by simp, fun n nx ci t h => ?_⟩, fun j k d d' h => by simp at h⟩
  · exact ⟨h.1.1, h.1.2, h.2⟩
  · unfold pinit at h
    simp only [List.getElem?_replicate] at h
    split at h
    · injection h with h; injection h with _ h; cases h
    · cases h
theorem rg_call {N n nx : Nat} {c : VCall} (h : callOf (rgM N) n nx = some c) : (n = 0 ∧ nx < 20 ∧ c = ⟨0, [((nx + 1 : Nat) : Int)]⟩) ∨ (n = 1 ∧ nx < 20 ∧ c = ⟨1, []⟩) := by
  unfold callOf rgM at h
  simp only at h
  rw [List.getElem?_map] at h
  obtain ⟨l, hl, h⟩ := Option.bind_eq_some_iff.1 h
  obtain ⟨u, hu, rfl⟩ := Option.map_eq_some_iff.1 hl
  have hn : n < 2 := by simpa using (List.getElem?_eq_some_iff.1 hu).1
  obtain rfl : n = u := by
    obtain ⟨h1, h2⟩ := List.getElem?_eq_some_iff.1 hu
    simpa using h2
  have hx : nx < 20 := by have := (List.getElem?_eq_some_iff.1 h).1; rw [rgths_len hn] at this; exact this
  rcases (show n = 0 ∨ n = 1 by omega) with rfl | rfl
  · refine .inl ⟨rfl, hx, ?_⟩
    have h : (rgPuts 20)[nx]? = some c := h
    unfold rgPuts at h
    rw [List.getElem?_map, List.getElem?_range hx] at h
    injection h with h; exact h.symm
  · refine .inr ⟨rfl, hx, ?_⟩
    have h : (rgTakes 20)[nx]? = some c := h
    unfold rgTakes at h
    rw [List.getElem?_map, List.getElem?_range hx] at h
    injection h with h; exact h.symm
def wP (ws : List Int) : Nat := (ws.getD 0 0).toNat
def wT (ws : List Int) : Nat := (ws.getD 1 0).toNat
def RgP (N : Nat) (ws : List Int) (c : VCall) (ph : Ph) (t : Th) : Prop :=
  (∃ v : Nat, v ≤ 20 ∧ c = ⟨0, [(v : Int)]⟩ ∧ RPut N v (wP ws) (wT ws) (ws.drop 2) ph t) ∨ (c = ⟨1, []⟩ ∧ RTake N (wP ws) (wT ws) (ws.drop 2) ph t)
def RgG (N : Nat) (ths : List PT) (ws : List Int) (l : List Int) : Prop :=
  ∃ (P T : Nat) (sl : List Int), ws = (P : Int) :: (T : Int) :: sl ∧ RW N P T sl l ∧ ∃ p, ths[0]? = some p ∧ P ≤ p.next
theorem ring_obj {N : Nat} (hN : 1 ≤ N ∧ N ≤ 8) : ObjM true N (rgM N) (RgP N) (RgG N) where
  call := fun n nx c h => by
    rcases rg_call h with ⟨_, _, rfl⟩ | ⟨_, _, rfl⟩
    · exact .inl ⟨rfl, _, rfl, by omega⟩
    · exact .inr ⟨rfl, rfl⟩
  beg := fun ths ws l n nx c hG hn hc => by
    obtain ⟨P, T, sl, rfl, hW, p, hp, hPn⟩ := hG
    rcases rg_call hc with ⟨rfl, hx, rfl⟩ | ⟨rfl, hx, rfl⟩
    · rw [hn] at hp; injection hp with hp; subst hp
      have hPn : P ≤ nx := hPn
      refine ⟨.inl ⟨nx + 1, by omega, rfl, ?_⟩, P, T, sl, rfl, hW, _, List.getElem?_set_self (List.getElem?_eq_some_iff.1 hn).1, by show P ≤ nx + 1; omega⟩
      exact .p0 (show P < nx + 1 by omega)
    · exact ⟨.inr ⟨rfl, .t0⟩, P, T, sl, rfl, hW, p, by rw [List.getElem?_set, if_neg (by decide)]; exact hp, hPn⟩
  act := fun ths ws l n nx t c ph hG hn hc hP => by
    obtain ⟨P, T, sl, rfl, hW, p, hp, hPn⟩ := hG
    rcases rg_call hc with ⟨rfl, hx, rfl⟩ | ⟨rfl, hx, rfl⟩
    · rw [hn] at hp; injection hp with hp; subst hp
      rcases hP with ⟨v, hv, he, hP⟩ | ⟨he, _⟩
      · injection he with _ he; injection he with he
        obtain rfl : nx + 1 = v := by omega
        obtain ⟨ph', P', sl', l', e1, e2, e3, e4, e5, e6⟩ := rput_step hN hv (show RPut N (nx + 1) P T sl ph t from hP) hW
        show (∀ n' nx' t' c' ph'', _ → _ → _ → _ → RgP N (vstep (rputCode N) t _).2 c' ph'' t') ∧ ∃ ph' l', (vstep (rputCode N) t _).1.err = 0 ∧ (((vstep (rputCode N) t _).1.over = false ∧ _ ∧ RgP N (vstep (rputCode N) t _).2 _ _ (vstep (rputCode N) t _).1 ∧ RgG N (ths.set 0 ⟨nx + 1, some (0, (vstep (rputCode N) t _).1)⟩) (vstep (rputCode N) t _).2 l') ∨ ((vstep (rputCode N) t _).1.over = true ∧ _ ∧ _ ∧ OTold true _ (vstep (rputCode N) t _).1.told ∧ RgG N (ths.set 0 ⟨nx + 1, none⟩) (vstep (rputCode N) t _).2 l'))
        rw [e1]
        have hP' : P' ≤ nx + 1 := by
          have : P ≤ nx + 1 := hPn
          omega
        refine ⟨fun n' nx' t' c' ph'' hne _ hc' hP' => ?_, ph', l', e3, ?_⟩
        · rcases rg_call hc' with ⟨rfl, _⟩ | ⟨rfl, _, rfl⟩
          · exact absurd rfl hne
          · rcases hP' with ⟨_, _, he', _⟩ | ⟨_, hP'⟩
            · injection he' with he' _; cases he'
            · exact .inr ⟨rfl, (show RTake N P T sl ph'' t' from hP').other (show P ≤ P' by omega) e5⟩
        · rcases e6 with ⟨f1, f2, f3⟩ | ⟨f1, f2, f3, f4⟩
          · exact .inl ⟨f1, f2, .inl ⟨nx + 1, hv, rfl, f3⟩, P', T, sl', rfl, e2, _, List.getElem?_set_self (List.getElem?_eq_some_iff.1 hn).1, hP'⟩
          · exact .inr ⟨f1, f2, f3, f4, P', T, sl', rfl, e2, _, List.getElem?_set_self (List.getElem?_eq_some_iff.1 hn).1, hP'⟩
      · injection he with he _; cases he
    · rcases hP with ⟨_, _, he, _⟩ | ⟨_, hP⟩
      · injection he with he _; cases he
      · obtain ⟨ph', T', l', e1, e2, e3, e4, e6⟩ := rtake_step hN (show RTake N P T sl ph t from hP) hW
        show (∀ n' nx' t' c' ph'', _ → _ → _ → _ → RgP N (vstep (rtakeCode N) t _).2 c' ph'' t') ∧ ∃ ph' l', (vstep (rtakeCode N) t _).1.err = 0 ∧ (((vstep (rtakeCode N) t _).1.over = false ∧ _ ∧ RgP N (vstep (rtakeCode N) t _).2 _ _ (vstep (rtakeCode N) t _).1 ∧ RgG N (ths.set 1 ⟨nx + 1, some (1, (vstep (rtakeCode N) t _).1)⟩) (vstep (rtakeCode N) t _).2 l') ∨ ((vstep (rtakeCode N) t _).1.over = true ∧ _ ∧ _ ∧ OTold false _ (vstep (rtakeCode N) t _).1.told ∧ RgG N (ths.set 1 ⟨nx + 1, none⟩) (vstep (rtakeCode N) t _).2 l'))
        rw [e1]
        refine ⟨fun n' nx' t' c' ph'' hne _ hc' hP' => ?_, ph', l', e3, ?_⟩
        · rcases rg_call hc' with ⟨rfl, _, rfl⟩ | ⟨rfl, _⟩
          · rcases hP' with ⟨v, hv, he', hP'⟩ | ⟨he', _⟩
            · refine .inl ⟨v, hv, he', ?_⟩
              have h : RPut N v P T sl ph'' t' := hP'
              rcases e4 with rfl | rfl
              · exact h
              · exact h.other
            · injection he' with he' _; cases he'
          · exact absurd rfl hne
        · have hp1 : ∀ q : PT, (ths.set 1 q)[0]? = some p := fun q => by rw [List.getElem?_set, if_neg (by decide)]; exact hp
          rcases e6 with ⟨f1, f2, f3⟩ | ⟨f1, f2, f3, f4⟩
          · exact .inl ⟨f1, f2, .inr ⟨rfl, f3⟩, P, T', sl, rfl, e2, p, hp1 _, hPn⟩
          · exact .inr ⟨f1, f2, f3, f4, P, T', sl, rfl, e2, p, hp1 _, hPn⟩
theorem ring_play {N : Nat} (hN : 1 ≤ N ∧ N ≤ 8) (l : List Nat) :
    (∃ H s, LJ true N (rgM N) (RgP N (play (rgM N) l).words) l.length (play (rgM N) l).ths (doings (play (rgM N) l).evs) H s) ∧ SeqDs (doings (play (rgM N) l).evs) ∧ NoErr (play (rgM N) l).evs := by
  obtain ⟨⟨H, s, _, h⟩, h2, h3⟩ := rlog_play2 (ring_obj hN) (fun ths ws l h => by obtain ⟨P, T, sl, _, hW, _⟩ := h; have h1 := hW.ll; have h2 := hW.room; omega) (show RgG N (pinit (rgM N)).ths (rgM N).words [] from
    ⟨0, 0, List.replicate N 0, rfl, ⟨List.length_replicate, Nat.le_refl _, Nat.zero_le _, by decide, rfl, fun j hj => absurd hj (Nat.not_lt_zero j)⟩, ⟨0, none⟩, rfl, Nat.le_refl _⟩) l
  exact ⟨⟨H, s, h⟩, h2, h3⟩
end Go.Proofs.YtiinnkdhccgelaaDoor
namespace Go.Proofs.YtiinnkdhccgelaaDoor
open Go.RowKit
set_option linter.unusedVariables false

/-! ### lists -/
theorem cntI_filter {α : Type} (p : α → Bool) : ∀ (l : List α) (a : Nat), cntI (fun _ => p) a l = (l.filter p).length
  | [], _ => rfl
  | x :: l, a => by
    rw [filter_len, ← cntI_filter p l (a + 1)]
    exact Nat.add_comm _ _
theorem filter_at {α : Type} {p : α → Bool} : ∀ {l : List α} {k : Nat} {x : α}, l[k]? = some x → p x = true → (l.filter p)[((l.take k).filter p).length]? = some x
  | [], k, x, h, _ => by simp at h
  | y :: l, 0, x, h, hp => by
    injection h with h; subst h
    rw [List.filter_cons_of_pos hp]; rfl
  | y :: l, k + 1, x, h, hp => by
    have ih := filter_at (l := l) (k := k) (by simpa using h) hp
    rw [List.take_succ_cons]
    cases hy : p y with
    | true => rw [List.filter_cons_of_pos hy, List.filter_cons_of_pos hy]; simpa using ih
    | false => rw [List.filter_cons_of_neg (by simp [hy]), List.filter_cons_of_neg (by simp [hy])]; exact ih
theorem filter_split {α : Type} {p : α → Bool} : ∀ {l : List α} {q : Nat} {x : α}, (l.filter p)[q]? = some x → p x = true ∧ ∃ l1 l2, l = l1 ++ x :: l2 ∧ (l1.filter p).length = q
  | [], q, x, h => by simp at h
  | y :: l, q, x, h => by
    cases hy : p y with
    | true =>
      rw [List.filter_cons_of_pos hy] at h
      match q, h with
      | 0, h =>
        injection h with h; subst h
        exact ⟨hy, [], l, rfl, rfl⟩
      | q + 1, h =>
        obtain ⟨h1, l1, l2, h2, h3⟩ := filter_split (l := l) (q := q) (by simpa using h)
        exact ⟨h1, y :: l1, l2, by rw [h2]; rfl, by rw [List.filter_cons_of_pos hy, List.length_cons, h3]⟩
    | false =>
      rw [List.filter_cons_of_neg (by simp [hy])] at h
      obtain ⟨h1, l1, l2, h2, h3⟩ := filter_split h
      exact ⟨h1, y :: l1, l2, by rw [h2]; rfl, by rw [List.filter_cons_of_neg (by simp [hy]), h3]⟩
/-! ### what was put, what was taken -/
def isPE (x : Lr) : Bool := x.put && !x.rf
def isTE (x : Lr) : Bool := !x.put && x.v != -1
def pV (H : List Lr) : List Int := (H.filter isPE).map Lr.v
def tV (H : List Lr) : List Int := (H.filter isTE).map Lr.v
theorem rseq_queue {N : Nat} : ∀ {H : List Lr} {has l : List Int}, RSeq true N has H l → (∀ y ∈ has, y ≠ -1) → (∀ x ∈ H, x.put = true → x.v ≠ -1) → has ++ pV H = tV H ++ l
  | [], has, l, h, _, _ => by
    have h : l = has := h
    subst h; simp [pV, tV]
  | x :: H, has, l, h, h1, h2 => by
    obtain ⟨m, a, b⟩ := h
    have h2' := fun y hy => h2 y (List.mem_cons_of_mem x hy)
    rcases a with ⟨a1, a2, a3, a4⟩ | ⟨a1, a2, a3⟩
    · subst a4
      have ih := rseq_queue b h1 h2'
      unfold pV tV at ih ⊢
      rw [List.filter_cons_of_neg (by simp [isPE, a1]), List.filter_cons_of_neg (by simp [isTE, a2])]
      exact ih
    · cases hp : x.put with
      | true =>
        rw [hp] at a2 a3
        have e : m = has ++ [x.v] := a3
        subst e
        have ih := rseq_queue b (fun y hy => by
          rcases List.mem_append.1 hy with h3 | h3
          · exact h1 y h3
          · rw [List.mem_singleton.1 h3]; exact h2 x List.mem_cons_self hp) h2'
        unfold pV tV at ih ⊢
        rw [List.filter_cons_of_pos (by simp [isPE, hp, a1]), List.filter_cons_of_neg (by simp [isTE, hp]), List.map_cons, ← ih]
        simp
      | false =>
        rw [hp] at a2 a3
        match has, h1, a2, a3 with
        | [], h1, a2, a3 =>
          have a2 : (-1 : Int) = x.v := a2
          have a3 : m = [] := a3
          subst a3
          have ih := rseq_queue b (fun y hy => by cases hy) h2'
          unfold pV tV at ih ⊢
          rw [List.filter_cons_of_neg (by simp [isPE, hp]), List.filter_cons_of_neg (by simp [isTE, ← a2])]
          exact ih
        | z :: has, h1, a2, a3 =>
          have a2 : z = x.v := a2
          have a3 : m = has := a3
          subst a3
          have hz := h1 z List.mem_cons_self
          have ih := rseq_queue b (fun y hy => h1 y (List.mem_cons_of_mem _ hy)) h2'
          unfold pV tV at ih ⊢
          have hxv : x.v ≠ -1 := by rw [← a2]; exact hz
          rw [List.filter_cons_of_neg (by simp [isPE, hp]), List.filter_cons_of_pos (by simp [isTE, hp, hxv]), List.map_cons, List.cons_append, List.cons_append, ← ih]
          rw [show z = x.v from a2]
theorem rseq_rf {q : Bool} {N : Nat} : ∀ {H : List Lr} {has l : List Int}, RSeq q N has H l → ∀ x ∈ H, x.rf = true → x.put = true
  | [], _, _, _, x, hx, _ => by cases hx
  | y :: H, has, l, h, x, hx, hr => by
    obtain ⟨m, a, b⟩ := h
    rcases List.mem_cons.1 hx with rfl | hx
    · rcases a with ⟨_, a, _⟩ | ⟨a, _⟩
      · exact a
      · rw [a] at hr; cases hr
    · exact rseq_rf b x hx hr
/-! ### a run, and all of it in its order -/
structure RX (N : Nat) (ds : List Dg) (H : List Lr) : Prop where
  seq : ∃ s, RSeq true N [] H s
  nd : (H.map Lr.k).Nodup
  ent : ∀ x ∈ H, ∃ d, ds[x.k]? = some d ∧ d.t < 2 ∧ x.put = decide (d.t = 0) ∧ (x.put = true → x.v = ((d.c + 1 : Nat) : Int)) ∧ ∀ e, d.e = some e → d.told = [rtold x]
  call : ∀ (k : Nat) (d : Dg), ds[k]? = some d → d.t < 2 ∧ d.c < 20
  cov : ∀ (k : Nat) (d : Dg) (e : Nat), ds[k]? = some d → d.e = some e → ∃ x ∈ H, x.k = k
  rt : H.Pairwise fun x y => ∀ (dx dy : Dg) (e : Nat), ds[x.k]? = some dx → ds[y.k]? = some dy → dy.e = some e → dx.b < e
  sq : SeqDs ds
  uniq : ∀ (j k : Nat) (d d' : Dg), ds[j]? = some d → ds[k]? = some d' → d.t = d'.t → d.c = d'.c → j = k
/-- what a call did that told so -/
def gdT (t : Nat) (d : Dg) : Bool := d.e.isSome && (if t = 0 then d.told == [1] else d.told != [-1])
def gL (t : Nat) (x : Lr) : Bool := if t = 0 then isPE x else isTE x
section
variable {N : Nat} {ds : List Dg} {H H1 H2 : List Lr} {y z : Lr} {dy dz : Dg}
theorem RX.ne_ (X : RX N ds H) (hH : H = H1 ++ y :: H2) (hz : z ∈ H1 ∨ z ∈ H2) : z.k ≠ y.k := by
  have h := X.nd
  rw [hH, List.map_append, List.map_cons, List.nodup_append, List.nodup_cons] at h
  obtain ⟨_, ⟨h2, _⟩, h3⟩ := h
  rcases hz with hz | hz
  · exact h3 _ (List.mem_map.2 ⟨z, hz, rfl⟩) _ List.mem_cons_self
  · intro e; exact h2 (List.mem_map.2 ⟨z, hz, e⟩)
theorem RX.rt1 (X : RX N ds H) (hH : H = H1 ++ y :: H2) (hz : z ∈ H1) (e1 : ds[z.k]? = some dz) (e2 : ds[y.k]? = some dy) {e : Nat} (he : dy.e = some e) : dz.b < e := by
  have h := X.rt
  rw [hH, List.pairwise_append] at h
  exact h.2.2 z hz y List.mem_cons_self dz dy e e1 e2 he
theorem RX.rt2 (X : RX N ds H) (hH : H = H1 ++ y :: H2) (hz : z ∈ H2) (e1 : ds[z.k]? = some dz) (e2 : ds[y.k]? = some dy) {e : Nat} (he : dz.e = some e) : dy.b < e := by
  have h := X.rt
  rw [hH, List.pairwise_append, List.pairwise_cons] at h
  exact h.2.1.1 z hz dy dz e e2 e1 he
/-- what is ahead of it, of the same thread -/
theorem RX.own1 (X : RX N ds H) (hH : H = H1 ++ y :: H2) (hz : z ∈ H1) (e1 : ds[z.k]? = some dz) (e2 : ds[y.k]? = some dy) (ht : dz.t = dy.t) : dz.c < dy.c ∧ z.k < y.k ∧ ∃ e, dz.e = some e := by
  have hne := X.ne_ hH (.inl hz)
  have hlt : dz.c < dy.c := by
    rcases Nat.lt_trichotomy dz.c dy.c with h | h | h
    · exact h
    · exact absurd (X.uniq _ _ _ _ e1 e2 ht h) hne
    · obtain ⟨_, e, he, h3⟩ := X.sq _ _ _ _ e2 e1 ht.symm h
      have := X.rt1 hH hz e1 e2 he
      omega
  obtain ⟨h1, e, he, _⟩ := X.sq _ _ _ _ e1 e2 ht hlt
  exact ⟨hlt, h1, e, he⟩
theorem RX.own2 (X : RX N ds H) (hH : H = H1 ++ y :: H2) (hz : z ∈ H) (e1 : ds[z.k]? = some dz) (e2 : ds[y.k]? = some dy) (ht : dz.t = dy.t) (hlt : dz.c < dy.c) : z ∈ H1 := by
  rw [hH] at hz
  rcases List.mem_append.1 hz with h | h
  · exact h
  · rcases List.mem_cons.1 h with rfl | h
    · rw [e1] at e2; injection e2 with e2; subst e2; omega
    · obtain ⟨_, e, he, h3⟩ := X.sq _ _ _ _ e1 e2 ht hlt
      have := X.rt2 hH h e1 e2 he
      omega
theorem RX.far (X : RX N ds H) (hH : H = H1 ++ y :: H2) (hz : z ∈ H) (e1 : ds[z.k]? = some dz) (e2 : ds[y.k]? = some dy) (hne : z.k ≠ y.k) {e : Nat} (he : dz.e = some e) (hlt : e < dy.b) : z ∈ H1 := by
  rw [hH] at hz
  rcases List.mem_append.1 hz with h | h
  · exact h
  · rcases List.mem_cons.1 h with rfl | h
    · exact absurd rfl hne
    · have := X.rt2 hH h e1 e2 he
      omega
/-- a call that told of something, and what it did -/
theorem RX.good (X : RX N ds H) {k : Nat} {d : Dg} (hk : ds[k]? = some d) (hg : gdT d.t d = true) : ∃ z ∈ H, z.k = k ∧ gL d.t z = true := by
  obtain ⟨h2, _⟩ := X.call k d hk
  unfold gdT at hg
  rw [Bool.and_eq_true] at hg
  obtain ⟨g1, g2⟩ := hg
  obtain ⟨e, he⟩ := Option.isSome_iff_exists.1 g1
  obtain ⟨z, hz, rfl⟩ := X.cov k d e hk he
  obtain ⟨d', a1, a2, a3, a4, a5⟩ := X.ent z hz
  rw [hk] at a1; injection a1 with a1; subst a1
  have htd := a5 e he
  obtain ⟨s, hs⟩ := X.seq
  have hrf := rseq_rf hs z hz
  refine ⟨z, hz, rfl, ?_⟩
  rw [htd] at g2
  unfold gL isPE isTE
  rcases (show d.t = 0 ∨ d.t = 1 by omega) with h | h
  · rw [h] at a3 g2 ⊢
    rw [if_pos rfl] at g2 ⊢
    have a3 : z.put = true := a3
    rw [a3]
    cases hr : z.rf with
    | true => unfold rtold at g2; rw [hr] at g2; exact absurd (show ([(0 : Int)] == [1]) = true from g2) (by decide)
    | false => rfl
  · rw [h] at a3 g2 ⊢
    rw [if_neg (by decide)] at g2 ⊢
    have a3 : z.put = false := a3
    have hr : z.rf = false := by
      cases hr : z.rf with
      | true => have := hrf hr; rw [a3] at this; cases this
      | false => rfl
    unfold rtold at g2
    rw [hr, a3] at g2
    rw [a3]
    simpa using g2
/-- and the other way -/
theorem RX.did (X : RX N ds H) {t : Nat} (ht : t < 2) (hz : z ∈ H) (hg : gL t z = true) : ∃ d, ds[z.k]? = some d ∧ d.t = t ∧ ∀ e, d.e = some e → gdT d.t d = true := by
  obtain ⟨d, a1, a2, a3, a4, a5⟩ := X.ent z hz
  obtain ⟨s, hs⟩ := X.seq
  have hrf := rseq_rf hs z hz
  unfold gL isPE isTE at hg
  rcases (show t = 0 ∨ t = 1 by omega) with rfl | rfl
  · rw [if_pos rfl, Bool.and_eq_true] at hg
    obtain ⟨g1, g2⟩ := hg
    have hd : d.t = 0 := by rw [a3] at g1; simpa using g1
    refine ⟨d, a1, hd, fun e he => ?_⟩
    unfold gdT
    rw [he, hd, if_pos rfl, a5 e he]
    unfold rtold
    have g2 : z.rf = false := by simpa using g2
    rw [g2, g1]; rfl
  · rw [if_neg (by decide), Bool.and_eq_true] at hg
    obtain ⟨g1, g2⟩ := hg
    have g1 : z.put = false := by simpa using g1
    have hd : d.t = 1 := by rw [g1] at a3; have : ¬ d.t = 0 := by simpa using a3.symm
                            omega
    refine ⟨d, a1, hd, fun e he => ?_⟩
    unfold gdT
    rw [he, hd, if_neg (by decide), a5 e he]
    unfold rtold
    have hr : z.rf = false := by
      cases hr : z.rf with
      | true => have := hrf hr; rw [g1] at this; cases this
      | false => rfl
    rw [hr, g1]
    simpa using g2
theorem RX.sub (X : RX N ds H) (hH : H = H1 ++ y :: H2) (f : Lr → Bool) : ((H1.filter f).map Lr.k).Nodup := by
  have h := X.nd
  rw [hH, List.map_append, List.nodup_append] at h
  exact h.1.sublist ((List.filter_sublist).map _)
/-- of its own thread: what is ahead of it in the run is what is ahead of it in the order -/
theorem RX.ahead (X : RX N ds H) (hH : H = H1 ++ y :: H2) (e2 : ds[y.k]? = some dy) (p : Dg → Bool) (hp : ∀ d, (∃ e, d.e = some e) → d.t = dy.t → p d = gdT d.t d) (hp2 : ∀ d, d.t ≠ dy.t → p d = false) :
    ((ds.take y.k).filter p).length = (H1.filter (gL dy.t)).length := by
  have hy2 := (X.call _ _ e2).1
  have hget : ∀ {j : Nat} {d : Dg}, (ds.take y.k)[j]? = some d → j < y.k ∧ ds[j]? = some d := fun {j d} h => by
    rw [List.getElem?_take] at h
    split at h
    · exact ⟨by assumption, h⟩
    · cases h
  rw [← cntI_filter p _ 0, show (H1.filter (gL dy.t)).length = ((H1.filter (gL dy.t)).map Lr.k).length from (List.length_map ..).symm]
  apply Nat.le_antisymm
  · refine cntI_list _ _ _ _ rfl fun j d hj hf => ?_
    obtain ⟨hjk, hj⟩ := hget hj
    have ht : d.t = dy.t := by
      by_cases h : d.t = dy.t
      · exact h
      · have := hp2 d h
        have hf : p d = true := hf
        rw [this] at hf; cases hf
    have hc : d.c < dy.c := by
      rcases Nat.lt_trichotomy d.c dy.c with h | h | h
      · exact h
      · have := X.uniq _ _ _ _ hj e2 ht h; omega
      · have := (X.sq _ _ _ _ e2 hj ht.symm h).1; omega
    obtain ⟨_, e, he, _⟩ := X.sq _ _ _ _ hj e2 ht hc
    have hg : gdT d.t d = true := by rw [← hp d ⟨e, he⟩ ht]; exact hf
    obtain ⟨z, hz, hzk, hgz⟩ := X.good hj hg
    subst hzk
    rw [ht] at hgz
    exact List.mem_map.2 ⟨z, List.mem_filter.2 ⟨X.own2 hH hz hj e2 ht hc, hgz⟩, rfl⟩
  · refine nodup_count _ _ _ _ rfl (X.sub hH _) fun j hj => ?_
    obtain ⟨z, hz, rfl⟩ := List.mem_map.1 hj
    obtain ⟨hz1, hz2⟩ := List.mem_filter.1 hz
    have hzH : z ∈ H := by rw [hH]; exact List.mem_append_left _ hz1
    obtain ⟨d, a1, a2, a3⟩ := X.did hy2 hzH hz2
    obtain ⟨hc, hk, e, he⟩ := X.own1 hH hz1 a1 e2 a2
    exact ⟨d, by rw [List.getElem?_take, if_pos hk]; exact a1, by rw [hp d ⟨e, he⟩ a2]; exact a3 e he⟩
theorem RX.vals (X : RX N ds H) : ∀ x ∈ H, x.put = true → x.v ≠ -1 := fun x hx hp => by
  obtain ⟨d, _, _, _, h, _⟩ := X.ent x hx
  rw [h hp]; omega
/-- what is there ahead of it -/
theorem RX.there (X : RX N ds H) (hH : H = H1 ++ y :: H2) : ∃ m m', pV H1 = tV H1 ++ m ∧ RS1 true N m y m' ∧ (∀ u ∈ m, u ≠ -1) ∧ (H1.filter (gL 0)).length = (H1.filter (gL 1)).length + m.length := by
  obtain ⟨s, hs⟩ := X.seq
  rw [hH] at hs
  obtain ⟨m, h1, m', h2, _⟩ := hs.split
  have hv : ∀ x ∈ H1, x.put = true → x.v ≠ -1 := fun x hx => X.vals x (by rw [hH]; exact List.mem_append_left _ hx)
  have hq := rseq_queue h1 (by simp) hv
  rw [List.nil_append] at hq
  refine ⟨m, m', hq, h2, fun u hu => ?_, ?_⟩
  · have : u ∈ pV H1 := by rw [hq]; exact List.mem_append_right _ hu
    obtain ⟨x, hx, rfl⟩ := List.mem_map.1 this
    obtain ⟨hx1, hx2⟩ := List.mem_filter.1 hx
    unfold isPE at hx2
    rw [Bool.and_eq_true] at hx2
    exact hv x hx1 hx2.1
  · have := congrArg List.length hq
    unfold pV tV at this
    rw [List.length_append, List.length_map, List.length_map] at this
    exact this
end
/-! ### RingOrder -/
def isP (d : Dg) : Bool := decide (d.t = 0) && (match d.e with | none => true | some _ => d.told == [1])
def isT (d : Dg) : Bool := decide (d.t = 1) && (match d.e with | none => false | some _ => d.told != [-1])
structure ROrd (ds : List Dg) : Prop where
  call : ∀ (k : Nat) (d : Dg), ds[k]? = some d → d.t < 2 ∧ d.c < 20
  told : ∀ (k : Nat) (d : Dg) (e : Nat), ds[k]? = some d → d.e = some e → ∃ v, d.told = [v] ∧ (d.t = 0 → v = 0 ∨ v = 1)
  take : ∀ (k : Nat) (d : Dg) (e : Nat) (v : Int), ds[k]? = some d → d.t = 1 → d.e = some e → d.told = [v] → v ≠ -1 → ∃ x, (ds.filter isP)[((ds.take k).filter isT).length]? = some x ∧ v = ((x.c + 1 : Nat) : Int) ∧ x.b < e
theorem split_mem {α : Type} {x : α} : ∀ {l : List α}, x ∈ l → ∃ l1 l2, l = l1 ++ x :: l2
  | y :: l, h => by
    rcases List.mem_cons.1 h with rfl | h
    · exact ⟨[], l, rfl⟩
    · obtain ⟨l1, l2, e⟩ := split_mem h
      exact ⟨y :: l1, l2, by rw [e]; rfl⟩
theorem ring_order {N : Nat} {ds : List Dg} {H : List Lr} (X : RX N ds H) : ROrd ds := by
  refine ⟨X.call, fun k d e hk he => ?_, fun k d e v hk ht he htd hv => ?_⟩
  · obtain ⟨z, hz, rfl⟩ := X.cov k d e hk he
    obtain ⟨d', a1, a2, a3, a4, a5⟩ := X.ent z hz
    rw [hk] at a1; injection a1 with a1; subst a1
    refine ⟨rtold z, a5 e he, fun h => ?_⟩
    have a3 : z.put = true := by rw [a3, h]; rfl
    unfold rtold
    rw [a3]
    cases z.rf
    · exact .inr rfl
    · exact .inl rfl
  · have hg : gdT d.t d = true := by
      unfold gdT; rw [he, ht, htd]; simpa using hv
    obtain ⟨y, hy, rfl, hgy⟩ := X.good hk hg
    rw [ht] at hgy
    obtain ⟨H1, H2, hH⟩ := split_mem hy
    obtain ⟨d', a1, a2, a3, a4, a5⟩ := X.ent y hy
    rw [hk] at a1; injection a1 with a1; subst a1
    have hyv : isTE y = true := hgy
    unfold isTE at hyv
    rw [Bool.and_eq_true] at hyv
    have hyp : y.put = false := by simpa using hyv.1
    have hyn : y.v ≠ -1 := by simpa using hyv.2
    have htv := a5 e he
    rw [htd] at htv
    obtain ⟨m, m', h1, h2, h3, h4⟩ := X.there hH
    have hm : ∃ m2, m = y.v :: m2 := by
      rcases h2 with ⟨_, h2, _⟩ | ⟨_, h2, _⟩
      · rw [hyp] at h2; cases h2
      · rw [hyp] at h2
        match m, h2 with
        | [], h2 => exact absurd h2.symm hyn
        | u :: m2, h2 => exact ⟨m2, by rw [show u = y.v from h2]⟩
    have hvv : v = y.v := by
      injection htv with htv
      rw [htv]; unfold rtold
      have hr : y.rf = false := by
        obtain ⟨s, hs⟩ := X.seq
        cases hr : y.rf with
        | true => have := rseq_rf hs y hy hr; rw [hyp] at this; cases this
        | false => rfl
      rw [hr, hyp]; rfl
    obtain ⟨m2, rfl⟩ := hm
    have hq : (pV H1)[(tV H1).length]? = some y.v := by rw [h1, List.getElem?_append_right (Nat.le_refl _), Nat.sub_self]; rfl
    unfold pV at hq
    rw [List.getElem?_map] at hq
    obtain ⟨x, hx, hxv⟩ := Option.map_eq_some_iff.1 hq
    obtain ⟨hxp, H3, H4, hH1, hlen⟩ := filter_split hx
    have hHx : H = H3 ++ x :: (H4 ++ y :: H2) := by rw [hH, hH1]; simp
    have hxH1 : x ∈ H1 := by rw [hH1]; exact List.mem_append_right _ List.mem_cons_self
    have hxH : x ∈ H := by rw [hH]; exact List.mem_append_left _ hxH1
    obtain ⟨dx, b1, b2, b3⟩ := X.did (show 0 < 2 by decide) hxH (show gL 0 x = true from hxp)
    obtain ⟨dx', c1, c2, c3, c4, c5⟩ := X.ent x hxH
    rw [b1] at c1; injection c1 with c1; subst c1
    have hA := X.ahead hH hk isT (fun d' hd hdt => by
      obtain ⟨e', hd⟩ := hd
      unfold isT gdT
      rw [hdt, ht, hd]; simp) (fun d' hd => by unfold isT; rw [decide_eq_false (by rw [ht] at hd; exact hd)]; rfl)
    have hB := X.ahead hHx b1 isP (fun d' hd hdt => by
      obtain ⟨e', hd⟩ := hd
      unfold isP gdT
      rw [hdt, b2, hd]; simp) (fun d' hd => by unfold isP; rw [decide_eq_false (by rw [b2] at hd; exact hd)]; rfl)
    rw [ht] at hA
    rw [b2] at hB
    have hxisP : isP dx = true := by
      unfold isP
      rw [b2]
      cases hde : dx.e with
      | none => rfl
      | some e' =>
        have := b3 e' hde
        unfold gdT at this
        rw [b2, hde] at this
        simpa using this
    have hAt := filter_at b1 hxisP
    have hcount : ((ds.take x.k).filter isP).length = ((ds.take y.k).filter isT).length := by
      rw [hA, hB]
      have : (tV H1).length = (H1.filter (gL 1)).length := by unfold tV; rw [List.length_map]; rfl
      rw [← this]
      exact hlen
    rw [hcount] at hAt
    refine ⟨dx, hAt, ?_, X.rt1 hH hxH1 b1 hk he⟩
    rw [hvv, ← hxv]
    exact c4 (by unfold isPE at hxp; rw [Bool.and_eq_true] at hxp; exact hxp.1)
/-! ### RingFull -/
def bF (x : Dg) (d : Dg) : Bool := decide (d.t = x.t) && gdT d.t d && decide (d.c < x.c)
def sF (x : Dg) (d : Dg) : Bool := !decide (d.t = x.t) && gdT d.t d && (match d.e with | none => false | some e => decide (e < x.b))
def mF (x : Dg) (e : Nat) (d : Dg) : Bool := !decide (d.t = x.t) && (gdT d.t d || d.e.isNone) && decide (d.b < e)
structure RFul (N : Nat) (ds : List Dg) : Prop where
  call : ∀ (k : Nat) (d : Dg), ds[k]? = some d → d.t < 2 ∧ d.c < 20
  told : ∀ (k : Nat) (d : Dg) (e : Nat), ds[k]? = some d → d.e = some e → ∃ v, d.told = [v]
  put : ∀ (k : Nat) (d : Dg) (e : Nat), ds[k]? = some d → d.t = 0 → d.e = some e → d.told = [0] → N + (ds.filter (sF d)).length ≤ (ds.filter (bF d)).length ∧ (ds.filter (bF d)).length ≤ N + (ds.filter (mF d e)).length
  take : ∀ (k : Nat) (d : Dg) (e : Nat), ds[k]? = some d → d.t = 1 → d.e = some e → d.told = [-1] → (ds.filter (sF d)).length ≤ (ds.filter (bF d)).length ∧ (ds.filter (bF d)).length ≤ (ds.filter (mF d e)).length
section
variable {N : Nat} {ds : List Dg} {H H1 H2 : List Lr} {y : Lr} {dy : Dg}
theorem RX.bef (X : RX N ds H) (hH : H = H1 ++ y :: H2) (e2 : ds[y.k]? = some dy) : (ds.filter (bF dy)).length = (H1.filter (gL dy.t)).length := by
  have hy2 := (X.call _ _ e2).1
  rw [← cntI_filter (bF dy) _ 0, show (H1.filter (gL dy.t)).length = ((H1.filter (gL dy.t)).map Lr.k).length from (List.length_map ..).symm]
  apply Nat.le_antisymm
  · refine cntI_list _ _ _ _ rfl fun j d hj hf => ?_
    unfold bF at hf
    simp only [Bool.and_eq_true, decide_eq_true_eq] at hf
    obtain ⟨⟨ht, hg⟩, hc⟩ := hf
    obtain ⟨z, hz, hzk, hgz⟩ := X.good hj hg
    subst hzk
    rw [ht] at hgz
    exact List.mem_map.2 ⟨z, List.mem_filter.2 ⟨X.own2 hH hz hj e2 ht hc, hgz⟩, rfl⟩
  · refine nodup_count _ _ _ _ rfl (X.sub hH _) fun j hj => ?_
    obtain ⟨z, hz, rfl⟩ := List.mem_map.1 hj
    obtain ⟨hz1, hz2⟩ := List.mem_filter.1 hz
    have hzH : z ∈ H := by rw [hH]; exact List.mem_append_left _ hz1
    obtain ⟨d, a1, a2, a3⟩ := X.did hy2 hzH hz2
    obtain ⟨hc, hk, e, he⟩ := X.own1 hH hz1 a1 e2 a2
    refine ⟨d, a1, ?_⟩
    unfold bF
    simp only [Bool.and_eq_true, decide_eq_true_eq]
    exact ⟨⟨a2, a3 e he⟩, hc⟩
theorem RX.sur (X : RX N ds H) (hH : H = H1 ++ y :: H2) (e2 : ds[y.k]? = some dy) : (ds.filter (sF dy)).length ≤ (H1.filter (gL (1 - dy.t))).length := by
  have hy2 := (X.call _ _ e2).1
  rw [← cntI_filter (sF dy) _ 0, show (H1.filter (gL (1 - dy.t))).length = ((H1.filter (gL (1 - dy.t))).map Lr.k).length from (List.length_map ..).symm]
  refine cntI_list _ _ _ _ rfl fun j d hj hf => ?_
  unfold sF at hf
  simp only [Bool.and_eq_true, Bool.not_eq_true', decide_eq_false_iff_not] at hf
  obtain ⟨⟨ht, hg⟩, hc⟩ := hf
  have hd2 := (X.call _ _ hj).1
  obtain ⟨e, he⟩ : ∃ e, d.e = some e := by
    cases h : d.e with
    | none => rw [h] at hc; cases hc
    | some e => exact ⟨e, rfl⟩
  rw [he] at hc
  have hc : e < dy.b := by simpa using hc
  obtain ⟨z, hz, hzk, hgz⟩ := X.good hj hg
  subst hzk
  rw [show d.t = 1 - dy.t by omega] at hgz
  refine List.mem_map.2 ⟨z, List.mem_filter.2 ⟨X.far hH hz hj e2 (fun h => ?_) he hc, hgz⟩, rfl⟩
  rw [h, e2] at hj; injection hj with hj; subst hj
  exact ht rfl
theorem RX.may (X : RX N ds H) (hH : H = H1 ++ y :: H2) (e2 : ds[y.k]? = some dy) {e : Nat} (he : dy.e = some e) : (H1.filter (gL (1 - dy.t))).length ≤ (ds.filter (mF dy e)).length := by
  have hy2 := (X.call _ _ e2).1
  rw [← cntI_filter (mF dy e) _ 0, show (H1.filter (gL (1 - dy.t))).length = ((H1.filter (gL (1 - dy.t))).map Lr.k).length from (List.length_map ..).symm]
  refine nodup_count _ _ _ _ rfl (X.sub hH _) fun j hj => ?_
  obtain ⟨z, hz, rfl⟩ := List.mem_map.1 hj
  obtain ⟨hz1, hz2⟩ := List.mem_filter.1 hz
  have hzH : z ∈ H := by rw [hH]; exact List.mem_append_left _ hz1
  obtain ⟨d, a1, a2, a3⟩ := X.did (show 1 - dy.t < 2 by omega) hzH hz2
  refine ⟨d, a1, ?_⟩
  have hb := X.rt1 hH hz1 a1 e2 he
  unfold mF
  simp only [Bool.and_eq_true, Bool.not_eq_true', decide_eq_false_iff_not, decide_eq_true_eq, Bool.or_eq_true]
  refine ⟨⟨by omega, ?_⟩, hb⟩
  cases hde : d.e with
  | none => exact .inr rfl
  | some e' => exact .inl (a3 e' hde)
end
theorem ring_full {N : Nat} {ds : List Dg} {H : List Lr} (X : RX N ds H) : RFul N ds := by
  refine ⟨X.call, fun k d e hk he => ?_, fun k d e hk ht he htd => ?_, fun k d e hk ht he htd => ?_⟩
  · obtain ⟨z, hz, rfl⟩ := X.cov k d e hk he
    obtain ⟨d', a1, a2, a3, a4, a5⟩ := X.ent z hz
    rw [hk] at a1; injection a1 with a1; subst a1
    exact ⟨_, a5 e he⟩
  · obtain ⟨y, hy, rfl⟩ := X.cov k d e hk he
    obtain ⟨d', a1, a2, a3, a4, a5⟩ := X.ent y hy
    rw [hk] at a1; injection a1 with a1; subst a1
    obtain ⟨H1, H2, hH⟩ := split_mem hy
    have h1 := X.bef hH hk
    have h2 := X.sur hH hk
    have h3 := X.may hH hk he
    obtain ⟨m, m', _, h4, _, h5⟩ := X.there hH
    rw [ht] at h1 h2 h3
    rw [show 1 - 0 = 1 from rfl] at h2 h3
    have hp : y.put = true := by rw [a3, ht]; rfl
    have htv := a5 e he
    rw [htd] at htv
    injection htv with htv
    rcases h4 with ⟨_, _, h4, _⟩ | ⟨h4, _⟩
    · omega
    · unfold rtold at htv; rw [h4, hp] at htv; exact absurd (show (0 : Int) = 1 from htv) (by decide)
  · obtain ⟨y, hy, rfl⟩ := X.cov k d e hk he
    obtain ⟨d', a1, a2, a3, a4, a5⟩ := X.ent y hy
    rw [hk] at a1; injection a1 with a1; subst a1
    obtain ⟨H1, H2, hH⟩ := split_mem hy
    have h1 := X.bef hH hk
    have h2 := X.sur hH hk
    have h3 := X.may hH hk he
    obtain ⟨m, m', _, h4, h6, h5⟩ := X.there hH
    rw [ht] at h1 h2 h3
    rw [show 1 - 1 = 0 from rfl] at h2 h3
    have hp : y.put = false := by rw [a3, ht]; rfl
    have htv := a5 e he
    rw [htd] at htv
    injection htv with htv
    rcases h4 with ⟨_, h4, _⟩ | ⟨h4, h7, _⟩
    · rw [hp] at h4; cases h4
    · unfold rtold at htv
      rw [h4, hp] at htv
      have htv : (-1 : Int) = y.v := htv
      rw [hp, ← htv] at h7
      match m, h5, h6, h7 with
      | [], h5, h6, h7 => simp at h5; omega
      | u :: m, h5, h6, h7 => exact absurd (show u = -1 from h7) (h6 u List.mem_cons_self)
/-! ### the machine -/
theorem rput_fwd (N : Nat) : Fwd (rputCode N) := by
  intro i o ho
  have hi := (List.getElem?_eq_some_iff.1 ho).1
  have hi : i < 14 := hi
  rw [show (rputCode N).length = 14 from rfl]
  rcases (show i = 0 ∨ i = 1 ∨ i = 2 ∨ i = 3 ∨ i = 4 ∨ i = 5 ∨ i = 6 ∨ i = 7 ∨ i = 8 ∨ i = 9 ∨ i = 10 ∨ i = 11 ∨ i = 12 ∨ i = 13 by omega) with rfl | rfl | rfl | rfl | rfl | rfl | rfl | rfl | rfl | rfl | rfl | rfl | rfl | rfl <;> (injection ho with ho; subst ho; first | exact ⟨by decide, by decide⟩ | exact ⟨fun h => by simp at h, fun h => by simp at h⟩)
theorem rtake_fwd (N : Nat) : Fwd (rtakeCode N) := by
  intro i o ho
  have hi := (List.getElem?_eq_some_iff.1 ho).1
  have hi : i < 14 := hi
  rw [show (rtakeCode N).length = 14 from rfl]
  rcases (show i = 0 ∨ i = 1 ∨ i = 2 ∨ i = 3 ∨ i = 4 ∨ i = 5 ∨ i = 6 ∨ i = 7 ∨ i = 8 ∨ i = 9 ∨ i = 10 ∨ i = 11 ∨ i = 12 ∨ i = 13 by omega) with rfl | rfl | rfl | rfl | rfl | rfl | rfl | rfl | rfl | rfl | rfl | rfl | rfl | rfl <;> (injection ho with ho; subst ho; first | exact ⟨by decide, by decide⟩ | exact ⟨fun h => by simp at h, fun h => by simp at h⟩)
theorem rg_fwd (N : Nat) (ci : Nat) : Fwd ((rgM N).codes.getD ci []) ∧ ((rgM N).codes.getD ci []).length ≤ 14 := by
  rcases (show ci = 0 ∨ ci = 1 ∨ 2 ≤ ci by omega) with rfl | rfl | h
  · exact ⟨rput_fwd N, Nat.le_of_ble_eq_true rfl⟩
  · exact ⟨rtake_fwd N, Nat.le_of_ble_eq_true rfl⟩
  · have : (rgM N).codes.getD ci [] = [] := by
      rw [List.getD_eq_getElem?_getD, List.getElem?_eq_none (by show 2 ≤ ci; exact h)]; rfl
    rw [this]
    exact ⟨fun i o h => by simp at h, Nat.zero_le _⟩
theorem ring_res {N : Nat} (hN : 1 ≤ N ∧ N ≤ 8) (l : List Nat) : (∃ H, RX N (doings (play (rgM N) l).evs) H) ∧ (∀ (k : Nat) (d : Dg), (doings (play (rgM N) l).evs)[k]? = some d → cnt l d.b (match d.e with | none => l.length | some e => e + 1) d.t ≤ 14) ∧ NoErr (play (rgM N) l).evs := by
  have hcall : ∀ (n nx : Nat) (calls : List VCall) (c : VCall), (rgM N).threads[n]? = some calls → calls[nx]? = some c → callOf (rgM N) n nx = some c := fun n nx calls c h1 h2 => by
    unfold callOf; rw [h1]; exact h2
  obtain ⟨⟨H, s, L⟩, hS, hE⟩ := ring_play hN l
  have hF := ((rlog_keeps (ring_obj hN) (fun ths ws l h => by obtain ⟨P, T, sl, _, hW, _⟩ := h; have h1 := hW.ll; have h2 := hW.room; omega) l).withFwd (B := 14) (rg_fwd N) (fun n nx calls c h1 h2 => by
    rcases rg_call (hcall n nx calls c h1 h2) with ⟨_, _, rfl⟩ | ⟨_, _, rfl⟩
    · exact ⟨rfl, Nat.le_of_ble_eq_true rfl⟩
    · exact ⟨rfl, Nat.le_of_ble_eq_true rfl⟩)).play ⟨⟨[], [], ⟨0, 0, List.replicate N 0, rfl, ⟨List.length_replicate, Nat.le_refl _, Nat.zero_le _, by decide, rfl, fun j hj => absurd hj (Nat.not_lt_zero j)⟩, ⟨0, none⟩, rfl, Nat.le_refl _⟩, rfl, by simp, fun x hx => by simp at hx, fun k d h => by simp at h, fun k d e h => by simp at h, by simp, fun n nx ci t h => by
      have := (FwdI.start (rgM N) l 14).th n nx ci t h
      unfold pinit at h
      simp only [List.getElem?_replicate] at h
      split at h
      · injection h with h; injection h with _ h; cases h
      · cases h⟩, FwdI.start (rgM N) l 14⟩
  refine ⟨⟨H, ⟨⟨s, L.seq⟩, L.nd, fun x hx => ?_, fun k d hk => ?_, L.cov, L.rt, hS, (play_di (rgM N) l).uniq⟩⟩, fun k d hk => hF.1.2.most (fun ci => (rg_fwd N ci).2) hk, hE⟩
  · obtain ⟨d, c, b1, b2, b3, b4, b5, b6⟩ := L.ent x hx
    refine ⟨d, b1, ?_⟩
    rcases rg_call b2 with ⟨h1, h2, rfl⟩ | ⟨h1, h2, rfl⟩
    · exact ⟨by omega, (by rw [b3, h1]; rfl), fun hp => b4 hp, b6⟩
    · exact ⟨by omega, (by rw [b3, h1]; rfl), fun hp => (by rw [b3] at hp; cases hp), b6⟩
  · obtain ⟨c, b2, _⟩ := L.call k d hk
    rcases rg_call b2 with ⟨h1, h2, rfl⟩ | ⟨h1, h2, rfl⟩
    · exact ⟨by omega, h2⟩
    · exact ⟨by omega, h2⟩
end Go.Proofs.YtiinnkdhccgelaaDoor
