/-
  Package queue, step by step: plain laws.
-/
import Derived.Test.YtabmkjokeeakdaaDoorVmMath
namespace Go.Proofs.YtabmkjokeeakdaaDoor
open Go.RowKit
set_option linter.unusedVariables false

/-! ### an object that holds numbers: a queue, or a stack -/
/-- what it tells, and what it has then -/
def otell (q : Bool) (has : List Int) (put : Bool) (v : Int) : Int × List Int :=
  if put then (v, has ++ [v]) else match has with
    | [] => (-1, [])
    | x :: l => if q then (x, l) else ((x :: l).getLast?.getD 0, (x :: l).dropLast)
/-- how far a call is: it had no effect yet, it had one, or it is turned away -/
inductive Ph where
  | no
  | done (v : Int)
  | ref
/-- what a step does to the object -/
def OEff (q : Bool) (N : Nat) (put : Bool) (v : Int) (ph : Ph) (l : List Int) (ph' : Ph) (l' : List Int) : Prop :=
  (ph' = ph ∧ l' = l) ∨ (ph = .no ∧ put = true ∧ ph' = .done v ∧ l' = l ++ [v]) ∨ (ph = .no ∧ put = false ∧ ph' = .done (otell q l false 0).1 ∧ l' = (otell q l false 0).2) ∨ (ph = .no ∧ put = true ∧ ph' = .ref ∧ l' = l ∧ N ≤ l.length)
/-- what a call tells that is over -/
def OTold (put : Bool) (ph : Ph) (told : List Int) : Prop := (∃ v, ph = .done v ∧ told = [if put then 1 else v]) ∨ (put = true ∧ ph = .ref ∧ told = [0])

/-! ### the word -/
def p64 : Nat → Int
  | 0 => 1
  | n + 1 => 64 * p64 n
def qval : List Int → Int
  | [] => 0
  | x :: l => x + 64 * qval l
def qenc (l : List Int) : Int := (l.length : Int) + 16 * qval l
structure QV (N : Nat) (l : List Int) : Prop where
  len : l.length ≤ N
  bd : ∀ x ∈ l, 0 ≤ x ∧ x < 64
theorem p64_bd {n : Nat} (h : n ≤ 8) : 1 ≤ p64 n ∧ p64 n ≤ 281474976710656 := by
  rcases (show n = 0 ∨ n = 1 ∨ n = 2 ∨ n = 3 ∨ n = 4 ∨ n = 5 ∨ n = 6 ∨ n = 7 ∨ n = 8 by omega) with rfl | rfl | rfl | rfl | rfl | rfl | rfl | rfl | rfl <;> decide
theorem p64_bd7 {n : Nat} (h : n ≤ 7) : 1 ≤ p64 n ∧ p64 n ≤ 4398046511104 := by
  rcases (show n = 0 ∨ n = 1 ∨ n = 2 ∨ n = 3 ∨ n = 4 ∨ n = 5 ∨ n = 6 ∨ n = 7 by omega) with rfl | rfl | rfl | rfl | rfl | rfl | rfl | rfl <;> decide
theorem qval_bd : ∀ l : List Int, (∀ x ∈ l, 0 ≤ x ∧ x < 64) → 0 ≤ qval l ∧ qval l < p64 l.length
  | [], _ => by decide
  | x :: l, h => by
    have h1 := qval_bd l fun y hy => h y (List.mem_cons_of_mem _ hy)
    have h2 := h x List.mem_cons_self
    rw [qval, List.length_cons, p64]; omega
theorem qval_app : ∀ (l : List Int) (v : Int), qval (l ++ [v]) = qval l + v * p64 l.length
  | [], v => by show v + 64 * 0 = 0 + v * 1; omega
  | x :: l, v => by
    rw [List.cons_append, qval, qval, qval_app l v, List.length_cons, p64, Int.mul_left_comm]; omega
theorem QV.mono {N M : Nat} {l : List Int} (h : QV N l) (hm : N ≤ M) : QV M l := ⟨Nat.le_trans h.len hm, h.bd⟩
theorem QV.app {N : Nat} {l : List Int} {v : Int} (h : QV N l) (hl : l.length < N) (hv : 0 ≤ v ∧ v < 64) : QV N (l ++ [v]) :=
  ⟨by rw [List.length_append]; exact hl, fun x hx => by rcases List.mem_append.1 hx with h1 | h1; exact h.bd x h1; rw [List.mem_singleton.1 h1]; exact hv⟩
theorem QV.tail {N : Nat} {x : Int} {l : List Int} (h : QV N (x :: l)) : QV N l := ⟨by have := h.len; rw [List.length_cons] at this; omega, fun y hy => h.bd y (List.mem_cons_of_mem _ hy)⟩
theorem qval_inj : ∀ (l l' : List Int), l.length = l'.length → (∀ x ∈ l, 0 ≤ x ∧ x < 64) → (∀ x ∈ l', 0 ≤ x ∧ x < 64) → qval l = qval l' → l = l'
  | [], [], _, _, _, _ => rfl
  | [], y :: l', h, _, _, _ => by simp at h
  | x :: l, [], h, _, _, _ => by simp at h
  | x :: l, y :: l', h, h1, h2, h3 => by
    rw [qval, qval] at h3
    have a1 := h1 x List.mem_cons_self
    have a2 := h2 y List.mem_cons_self
    have e : x = y ∧ qval l = qval l' := by omega
    rw [e.1, qval_inj l l' (by simpa using h) (fun z hz => h1 z (List.mem_cons_of_mem _ hz)) (fun z hz => h2 z (List.mem_cons_of_mem _ hz)) e.2]
theorem qenc_inj {l l' : List Int} (h : QV 8 l) (h' : QV 8 l') (e : qenc l = qenc l') : l = l' := by
  unfold qenc at e
  have a := h.len; have b := h'.len
  have e2 : l.length = l'.length ∧ qval l = qval l' := by omega
  exact qval_inj l l' e2.1 h.bd h'.bd e2.2
theorem qenc_bd {l : List Int} (h : QV 8 l) : 0 ≤ qenc l ∧ qenc l < 4503599627370520 := by
  have h1 := qval_bd l h.bd
  have h2 := p64_bd h.len
  have h3 := h.len
  unfold qenc; omega
theorem qenc_mod {l : List Int} (h : QV 8 l) : Int.tmod (qenc l) 16 = (l.length : Int) := by
  have h1 := (qenc_bd h).1
  have h2 := h.len
  rw [Int.tmod_eq_emod_of_nonneg h1]
  unfold qenc; omega
theorem wrap_mid {x : Int} (h0 : -4611686018427387904 ≤ x) (h1 : x ≤ 4611686018427387904) : wrap64 x = x := by unfold wrap64; omega

/-! ### Put -/
def qputCode (N : Nat) : List Op5 := [⟨1, 1, 1, 0, 0⟩, ⟨1, 2, 64, 0, 0⟩, ⟨1, 3, 16, 0, 0⟩, ⟨1, 4, (N : Int), 0, 0⟩, ⟨13, 5, 6, 0, 0⟩, ⟨7, 7, 5, 3, 0⟩, ⟨8, 8, 7, 4, 0⟩, ⟨11, 8, 19, 0, 0⟩, ⟨5, 9, 0, 3, 0⟩, ⟨12, 7, 13, 0, 0⟩, ⟨5, 9, 9, 2, 0⟩, ⟨4, 7, 7, 1, 0⟩, ⟨10, 9, 0, 0, 0⟩, ⟨3, 10, 5, 9, 0⟩, ⟨3, 10, 10, 1, 0⟩, ⟨15, 10, 6, 0, 5⟩, ⟨12, 10, 4, 0, 0⟩, ⟨16, 1, 0, 0, 0⟩, ⟨17, 0, 0, 0, 0⟩, ⟨16, 6, 0, 0, 0⟩]
def qPt (N p : Nat) (v a n f m x : Int) : Th := ⟨v :: 1 :: 64 :: 16 :: (N : Int) :: a :: 0 :: n :: f :: m :: x :: List.replicate 13 0, p, [], 0, false⟩
section
variable (N : Nat) (v a n f m x : Int) (ws : List Int)
theorem qp_0 : vstep (qputCode N) ⟨v :: List.replicate 23 0, 0, [], 0, false⟩ ws = (⟨v :: 1 :: List.replicate 22 0, 1, [], 0, false⟩, ws) := rfl
theorem qp_1 : vstep (qputCode N) ⟨v :: 1 :: List.replicate 22 0, 1, [], 0, false⟩ ws = (⟨v :: 1 :: 64 :: List.replicate 21 0, 2, [], 0, false⟩, ws) := rfl
theorem qp_2 : vstep (qputCode N) ⟨v :: 1 :: 64 :: List.replicate 21 0, 2, [], 0, false⟩ ws = (⟨v :: 1 :: 64 :: 16 :: List.replicate 20 0, 3, [], 0, false⟩, ws) := rfl
theorem qp_3 : vstep (qputCode N) ⟨v :: 1 :: 64 :: 16 :: List.replicate 20 0, 3, [], 0, false⟩ ws = (qPt N 4 v 0 0 0 0 0, ws) := rfl
theorem qp_4 (w : Int) : vstep (qputCode N) (qPt N 4 v a n f m x) [w] = (qPt N 5 v w n f m x, [w]) := by
  unfold vstep vdo vother
  simp only [qPt, qputCode, List.getElem?_cons_succ, List.getElem?_cons_zero]
  simp [vget, vset, wrap64]
theorem qp_5 : vstep (qputCode N) (qPt N 5 v a n f m x) ws = (qPt N 6 v a (Int.tmod a 16) f m x, ws) := rfl
theorem qp_6 : vstep (qputCode N) (qPt N 6 v a n f m x) ws = (qPt N 7 v a n (vflag (decide (n = (N : Int)))) m x, ws) := rfl
theorem qp_7a : vstep (qputCode N) (qPt N 7 v a n 1 m x) ws = (qPt N 19 v a n 1 m x, ws) := rfl
theorem qp_7b : vstep (qputCode N) (qPt N 7 v a n 0 m x) ws = (qPt N 8 v a n 0 m x, ws) := rfl
theorem qp_8 : vstep (qputCode N) (qPt N 8 v a n f m x) ws = (qPt N 9 v a n f (wrap64 (v * 16)) x, ws) := rfl
theorem qp_9 : vstep (qputCode N) (qPt N 9 v a n f m x) ws = (if n = 0 then (qPt N 13 v a n f m x, ws) else (qPt N 10 v a n f m x, ws)) := by
  unfold vstep vdo vother
  simp only [qPt, qputCode, List.getElem?_cons_succ, List.getElem?_cons_zero]
  simp [vget]
  split <;> rfl
theorem qp_10 : vstep (qputCode N) (qPt N 10 v a n f m x) ws = (qPt N 11 v a n f (wrap64 (m * 64)) x, ws) := rfl
theorem qp_11 : vstep (qputCode N) (qPt N 11 v a n f m x) ws = (qPt N 12 v a (wrap64 (n - 1)) f m x, ws) := rfl
theorem qp_12 : vstep (qputCode N) (qPt N 12 v a n f m x) ws = (qPt N 9 v a n f m x, ws) := rfl
theorem qp_13 : vstep (qputCode N) (qPt N 13 v a n f m x) ws = (qPt N 14 v a n f m (wrap64 (a + m)), ws) := rfl
theorem qp_14 : vstep (qputCode N) (qPt N 14 v a n f m x) ws = (qPt N 15 v a n f m (wrap64 (x + 1)), ws) := rfl
theorem qp_15 (w : Int) : vstep (qputCode N) (qPt N 15 v a n f m x) [w] = (if w = a then (qPt N 16 v a n f m 1, [x]) else (qPt N 16 v a n f m 0, [w])) := by
  unfold vstep vdo vother
  simp only [qPt, qputCode, List.getElem?_cons_succ, List.getElem?_cons_zero]
  simp [vget, vset, wrap64]
  split <;> rfl
theorem qp_16a : vstep (qputCode N) (qPt N 16 v a n f m 1) ws = (qPt N 17 v a n f m 1, ws) := rfl
theorem qp_16b : vstep (qputCode N) (qPt N 16 v a n f m 0) ws = (qPt N 4 v a n f m 0, ws) := rfl
theorem qp_17 : vstep (qputCode N) (qPt N 17 v a n f m x) ws = ({ qPt N 18 v a n f m x with told := [1] }, ws) := rfl
theorem qp_18 : vstep (qputCode N) { qPt N 18 v a n f m x with told := [1] } ws = ({ qPt N 19 v a n f m x with told := [1], over := true }, ws) := rfl
theorem qp_19 : vstep (qputCode N) (qPt N 19 v a n f m x) ws = ({ qPt N 20 v a n f m x with told := [0], over := true }, ws) := rfl
end
/-- where a Put may be -/
inductive QPut (N : Nat) (v : Int) : Ph → Th → Prop
  | p0 : QPut N v .no ⟨v :: List.replicate 23 0, 0, [], 0, false⟩
  | p1 : QPut N v .no ⟨v :: 1 :: List.replicate 22 0, 1, [], 0, false⟩
  | p2 : QPut N v .no ⟨v :: 1 :: 64 :: List.replicate 21 0, 2, [], 0, false⟩
  | p3 : QPut N v .no ⟨v :: 1 :: 64 :: 16 :: List.replicate 20 0, 3, [], 0, false⟩
  | p4 (a n f m x : Int) : QPut N v .no (qPt N 4 v a n f m x)
  | p5r (l : List Int) (n f m x : Int) (h : QV N l) (hl : l.length = N) : QPut N v .ref (qPt N 5 v (qenc l) n f m x)
  | p5 (l : List Int) (n f m x : Int) (h : QV N l) (hl : l.length < N) : QPut N v .no (qPt N 5 v (qenc l) n f m x)
  | p6r (a f m x : Int) : QPut N v .ref (qPt N 6 v a (N : Int) f m x)
  | p6 (l : List Int) (f m x : Int) (h : QV N l) (hl : l.length < N) : QPut N v .no (qPt N 6 v (qenc l) (l.length : Int) f m x)
  | p7r (a n m x : Int) : QPut N v .ref (qPt N 7 v a n 1 m x)
  | p7 (l : List Int) (m x : Int) (h : QV N l) (hl : l.length < N) : QPut N v .no (qPt N 7 v (qenc l) (l.length : Int) 0 m x)
  | p8 (l : List Int) (f m x : Int) (h : QV N l) (hl : l.length < N) : QPut N v .no (qPt N 8 v (qenc l) (l.length : Int) f m x)
  | p9 (l : List Int) (r d : Nat) (f x : Int) (h : QV N l) (hl : l.length < N) (hr : r + d = l.length) : QPut N v .no (qPt N 9 v (qenc l) (r : Int) f (16 * (v * p64 d)) x)
  | p10 (l : List Int) (r d : Nat) (f x : Int) (h : QV N l) (hl : l.length < N) (hr : r + 1 + d = l.length) : QPut N v .no (qPt N 10 v (qenc l) ((r + 1 : Nat) : Int) f (16 * (v * p64 d)) x)
  | p11 (l : List Int) (r d : Nat) (f x : Int) (h : QV N l) (hl : l.length < N) (hr : r + d = l.length) : QPut N v .no (qPt N 11 v (qenc l) ((r + 1 : Nat) : Int) f (16 * (v * p64 d)) x)
  | p12 (l : List Int) (r d : Nat) (f x : Int) (h : QV N l) (hl : l.length < N) (hr : r + d = l.length) : QPut N v .no (qPt N 12 v (qenc l) (r : Int) f (16 * (v * p64 d)) x)
  | p13 (l : List Int) (n f x : Int) (h : QV N l) (hl : l.length < N) : QPut N v .no (qPt N 13 v (qenc l) n f (16 * (v * p64 l.length)) x)
  | p14 (l : List Int) (n f m : Int) (h : QV N l) (hl : l.length < N) : QPut N v .no (qPt N 14 v (qenc l) n f m (qenc l + 16 * (v * p64 l.length)))
  | p15 (l : List Int) (n f m : Int) (h : QV N l) (hl : l.length < N) : QPut N v .no (qPt N 15 v (qenc l) n f m (qenc (l ++ [v])))
  | p16a (a n f m : Int) : QPut N v (.done v) (qPt N 16 v a n f m 1)
  | p16b (a n f m : Int) : QPut N v .no (qPt N 16 v a n f m 0)
  | p17 (a n f m x : Int) : QPut N v (.done v) (qPt N 17 v a n f m x)
  | p18 (a n f m x : Int) : QPut N v (.done v) { qPt N 18 v a n f m x with told := [1] }
  | p19 (a n f m x : Int) : QPut N v .ref (qPt N 19 v a n f m x)
/-- what one step of a call comes to -/
def QStep (sh : Ph → Th → Prop) (N : Nat) (put : Bool) (v : Int) (ph : Ph) (l : List Int) (r : Th × List Int) : Prop :=
  ∃ ph' l', r.2 = [qenc l'] ∧ QV N l' ∧ r.1.err = 0 ∧ ((r.1.over = false ∧ OEff true N put v ph l ph' l' ∧ sh ph' r.1) ∨ (r.1.over = true ∧ ph' = ph ∧ l' = l ∧ OTold put ph' r.1.told))
theorem qenc_app {l : List Int} {v : Int} : qenc (l ++ [v]) = qenc l + 16 * (v * p64 l.length) + 1 := by
  unfold qenc
  rw [qval_app, List.length_append, List.length_singleton]
  omega
theorem vp_bd {v : Int} {d : Nat} (hv : 0 ≤ v ∧ v < 64) (hd : d ≤ 7) : 0 ≤ v * p64 d ∧ v * p64 d ≤ 277076930199552 := by
  obtain ⟨a, b⟩ := p64_bd7 hd
  refine ⟨Int.mul_nonneg hv.1 (by omega), ?_⟩
  have h1 : v * p64 d ≤ 63 * p64 d := Int.mul_le_mul_of_nonneg_right (by omega) (by omega)
  omega
theorem qput_step {N : Nat} {v : Int} {ph : Ph} {t : Th} (hN : 1 ≤ N ∧ N ≤ 8) (hv : 0 ≤ v ∧ v < 64) (h : QPut N v ph t) {l : List Int} (hl : QV N l) : QStep (QPut N v) N true v ph l (vstep (qputCode N) t [qenc l]) := by
  have stay : ∀ {t' : Th}, t'.err = 0 → t'.over = false → QPut N v ph t' → vstep (qputCode N) t [qenc l] = (t', [qenc l]) → QStep (QPut N v) N true v ph l (vstep (qputCode N) t [qenc l]) := fun h1 h2 h3 h4 => by
    rw [h4]; exact ⟨ph, l, rfl, hl, h1, .inl ⟨h2, .inl ⟨rfl, rfl⟩, h3⟩⟩
  cases h with
  | p0 => exact stay rfl rfl .p1 (qp_0 ..)
  | p1 => exact stay rfl rfl .p2 (qp_1 ..)
  | p2 => exact stay rfl rfl .p3 (qp_2 ..)
  | p3 => exact stay rfl rfl (.p4 ..) (qp_3 ..)
  | p4 a n f m x =>
    rw [qp_4]
    rcases Nat.lt_or_ge l.length N with h1 | h1
    · exact ⟨.no, l, rfl, hl, rfl, .inl ⟨rfl, .inl ⟨rfl, rfl⟩, .p5 l n f m x hl h1⟩⟩
    · exact ⟨.ref, l, rfl, hl, rfl, .inl ⟨rfl, .inr (.inr (.inr ⟨rfl, rfl, rfl, rfl, h1⟩)), .p5r l n f m x hl (Nat.le_antisymm hl.len h1)⟩⟩
  | p5r l2 n f m x h2 hl2 =>
    refine stay rfl rfl (.p6r (qenc l2) f m x) ?_
    rw [qp_5, qenc_mod (h2.mono hN.2), hl2]
  | p5 l2 n f m x h2 hl2 =>
    refine stay rfl rfl (.p6 l2 f m x h2 hl2) ?_
    rw [qp_5, qenc_mod (h2.mono hN.2)]
  | p6r a f m x =>
    refine stay rfl rfl (.p7r a (N : Int) m x) ?_
    rw [qp_6]; simp [vflag]
  | p6 l2 f m x h2 hl2 =>
    refine stay rfl rfl (.p7 l2 m x h2 hl2) ?_
    rw [qp_6, decide_eq_false (by omega)]; rfl
  | p7r a n m x => exact stay rfl rfl (.p19 ..) (qp_7a ..)
  | p7 l2 m x h2 hl2 => exact stay rfl rfl (.p8 l2 _ _ _ h2 hl2) (qp_7b ..)
  | p8 l2 f m x h2 hl2 =>
    refine stay rfl rfl (.p9 l2 l2.length 0 f x h2 hl2 rfl) ?_
    rw [qp_8, wrap_mid (by omega) (by omega)]
    show _ = (qPt N 9 v (qenc l2) (l2.length : Int) f (16 * (v * 1)) x, _)
    rw [show v * 16 = 16 * (v * 1) by omega]
  | p9 l2 r d f x h2 hl2 hr =>
    rcases Nat.eq_zero_or_pos r with h0 | h0
    · subst h0
      refine stay rfl rfl (.p13 l2 ((0 : Nat) : Int) f x h2 hl2) ?_
      rw [qp_9, if_pos (by decide), show d = l2.length by omega]
    · obtain ⟨r, rfl⟩ : ∃ k, r = k + 1 := ⟨r - 1, by omega⟩
      refine stay rfl rfl (.p10 l2 r d f x h2 hl2 hr) ?_
      rw [qp_9, if_neg (by omega)]
  | p10 l2 r d f x h2 hl2 hr =>
    have hb := vp_bd (d := d) hv (by have := h2.len; omega)
    refine stay rfl rfl (.p11 l2 r (d + 1) f x h2 hl2 (by omega)) ?_
    rw [qp_10, wrap_mid (by omega) (by omega), p64, Int.mul_left_comm v 64]
    rw [show 16 * (v * p64 d) * 64 = 16 * (64 * (v * p64 d)) by omega]
  | p11 l2 r d f x h2 hl2 hr =>
    refine stay rfl rfl (.p12 l2 r d f x h2 hl2 hr) ?_
    rw [qp_11, wrap_mid (by omega) (by have := h2.len; omega)]
    rw [show ((r + 1 : Nat) : Int) - 1 = (r : Int) by omega]
  | p12 l2 r d f x h2 hl2 hr => exact stay rfl rfl (.p9 l2 r d f x h2 hl2 hr) (qp_12 ..)
  | p13 l2 n f x h2 hl2 =>
    have hb := vp_bd (d := l2.length) hv (by omega)
    have hq := qenc_bd (h2.mono hN.2)
    refine stay rfl rfl (.p14 l2 n f (16 * (v * p64 l2.length)) h2 hl2) ?_
    rw [qp_13, wrap_mid (by omega) (by omega)]
  | p14 l2 n f m h2 hl2 =>
    have hb := vp_bd (d := l2.length) hv (by omega)
    have hq := qenc_bd (h2.mono hN.2)
    refine stay rfl rfl (.p15 l2 n f m h2 hl2) ?_
    rw [qp_14, wrap_mid (by omega) (by omega), qenc_app]
  | p15 l2 n f m h2 hl2 =>
    rw [qp_15]
    split
    · rename_i e
      have e := qenc_inj (hl.mono hN.2) (h2.mono hN.2) e
      subst e
      exact ⟨.done v, l ++ [v], rfl, hl.app hl2 hv, rfl, .inl ⟨rfl, .inr (.inl ⟨rfl, rfl, rfl, rfl⟩), .p16a ..⟩⟩
    · exact ⟨.no, l, rfl, hl, rfl, .inl ⟨rfl, .inl ⟨rfl, rfl⟩, .p16b ..⟩⟩
  | p16a a n f m => exact stay rfl rfl (.p17 ..) (qp_16a ..)
  | p16b a n f m => exact stay rfl rfl (.p4 ..) (qp_16b ..)
  | p17 a n f m x => exact stay rfl rfl (.p18 ..) (qp_17 ..)
  | p18 a n f m x => rw [qp_18]; exact ⟨.done v, l, rfl, hl, rfl, .inr ⟨rfl, rfl, rfl, .inl ⟨v, rfl, rfl⟩⟩⟩
  | p19 a n f m x => rw [qp_19]; exact ⟨.ref, l, rfl, hl, rfl, .inr ⟨rfl, rfl, rfl, .inr ⟨rfl, rfl, rfl⟩⟩⟩

/-! ### Take -/
def qtakeCode : List Op5 := [⟨1, 0, 1, 0, 0⟩, ⟨1, 1, 64, 0, 0⟩, ⟨1, 2, 16, 0, 0⟩, ⟨13, 3, 4, 0, 0⟩, ⟨7, 5, 3, 2, 0⟩, ⟨12, 5, 16, 0, 0⟩, ⟨6, 6, 3, 2, 0⟩, ⟨7, 7, 6, 1, 0⟩, ⟨6, 6, 6, 1, 0⟩, ⟨5, 8, 6, 2, 0⟩, ⟨3, 8, 8, 5, 0⟩, ⟨4, 8, 8, 0, 0⟩, ⟨15, 8, 4, 0, 3⟩, ⟨12, 8, 3, 0, 0⟩, ⟨16, 7, 0, 0, 0⟩, ⟨17, 0, 0, 0, 0⟩, ⟨1, 7, -1, 0, 0⟩, ⟨16, 7, 0, 0, 0⟩]
def qTt (p : Nat) (a n r v x : Int) : Th := ⟨1 :: 64 :: 16 :: a :: 0 :: n :: r :: v :: x :: List.replicate 15 0, p, [], 0, false⟩
section
variable (a n r v x : Int) (ws : List Int)
theorem qt_0 : vstep qtakeCode ⟨List.replicate 24 0, 0, [], 0, false⟩ ws = (⟨1 :: List.replicate 23 0, 1, [], 0, false⟩, ws) := rfl
theorem qt_1 : vstep qtakeCode ⟨1 :: List.replicate 23 0, 1, [], 0, false⟩ ws = (⟨1 :: 64 :: List.replicate 22 0, 2, [], 0, false⟩, ws) := rfl
theorem qt_2 : vstep qtakeCode ⟨1 :: 64 :: List.replicate 22 0, 2, [], 0, false⟩ ws = (qTt 3 0 0 0 0 0, ws) := rfl
theorem qt_3 (w : Int) : vstep qtakeCode (qTt 3 a n r v x) [w] = (qTt 4 w n r v x, [w]) := by
  unfold vstep vdo vother
  simp only [qTt, qtakeCode, List.getElem?_cons_succ, List.getElem?_cons_zero]
  simp [vget, vset, wrap64]
theorem qt_4 : vstep qtakeCode (qTt 4 a n r v x) ws = (qTt 5 a (Int.tmod a 16) r v x, ws) := rfl
theorem qt_5 : vstep qtakeCode (qTt 5 a n r v x) ws = (if n = 0 then (qTt 16 a n r v x, ws) else (qTt 6 a n r v x, ws)) := by
  unfold vstep vdo vother
  simp only [qTt, qtakeCode, List.getElem?_cons_succ, List.getElem?_cons_zero]
  simp [vget]
  split <;> rfl
theorem qt_6 : vstep qtakeCode (qTt 6 a n r v x) ws = (qTt 7 a n (wrap64 (Int.tdiv a 16)) v x, ws) := rfl
theorem qt_7 : vstep qtakeCode (qTt 7 a n r v x) ws = (qTt 8 a n r (Int.tmod r 64) x, ws) := rfl
theorem qt_8 : vstep qtakeCode (qTt 8 a n r v x) ws = (qTt 9 a n (wrap64 (Int.tdiv r 64)) v x, ws) := rfl
theorem qt_9 : vstep qtakeCode (qTt 9 a n r v x) ws = (qTt 10 a n r v (wrap64 (r * 16)), ws) := rfl
theorem qt_10 : vstep qtakeCode (qTt 10 a n r v x) ws = (qTt 11 a n r v (wrap64 (x + n)), ws) := rfl
theorem qt_11 : vstep qtakeCode (qTt 11 a n r v x) ws = (qTt 12 a n r v (wrap64 (x - 1)), ws) := rfl
theorem qt_12 (w : Int) : vstep qtakeCode (qTt 12 a n r v x) [w] = (if w = a then (qTt 13 a n r v 1, [x]) else (qTt 13 a n r v 0, [w])) := by
  unfold vstep vdo vother
  simp only [qTt, qtakeCode, List.getElem?_cons_succ, List.getElem?_cons_zero]
  simp [vget, vset, wrap64]
  split <;> rfl
theorem qt_13a : vstep qtakeCode (qTt 13 a n r v 1) ws = (qTt 14 a n r v 1, ws) := rfl
theorem qt_13b : vstep qtakeCode (qTt 13 a n r v 0) ws = (qTt 3 a n r v 0, ws) := rfl
theorem qt_14 : vstep qtakeCode (qTt 14 a n r v x) ws = ({ qTt 15 a n r v x with told := [v] }, ws) := rfl
theorem qt_15 : vstep qtakeCode { qTt 15 a n r v x with told := [v] } ws = ({ qTt 16 a n r v x with told := [v], over := true }, ws) := rfl
theorem qt_16 : vstep qtakeCode (qTt 16 a n r v x) ws = (qTt 17 a n r (-1) x, ws) := rfl
theorem qt_17 : vstep qtakeCode (qTt 17 a n r v x) ws = ({ qTt 18 a n r v x with told := [v], over := true }, ws) := rfl
end
/-- where a Take may be -/
inductive QTake (N : Nat) : Ph → Th → Prop
  | t0 : QTake N .no ⟨List.replicate 24 0, 0, [], 0, false⟩
  | t1 : QTake N .no ⟨1 :: List.replicate 23 0, 1, [], 0, false⟩
  | t2 : QTake N .no ⟨1 :: 64 :: List.replicate 22 0, 2, [], 0, false⟩
  | t3 (a n r v x : Int) : QTake N .no (qTt 3 a n r v x)
  | t4e (n r v x : Int) : QTake N (.done (-1)) (qTt 4 (qenc []) n r v x)
  | t4 (y : Int) (l : List Int) (n r v x : Int) (h : QV N (y :: l)) : QTake N .no (qTt 4 (qenc (y :: l)) n r v x)
  | t5e (a r v x : Int) : QTake N (.done (-1)) (qTt 5 a 0 r v x)
  | t5 (y : Int) (l : List Int) (r v x : Int) (h : QV N (y :: l)) : QTake N .no (qTt 5 (qenc (y :: l)) ((y :: l).length : Int) r v x)
  | t6 (y : Int) (l : List Int) (r v x : Int) (h : QV N (y :: l)) : QTake N .no (qTt 6 (qenc (y :: l)) ((y :: l).length : Int) r v x)
  | t7 (y : Int) (l : List Int) (v x : Int) (h : QV N (y :: l)) : QTake N .no (qTt 7 (qenc (y :: l)) ((y :: l).length : Int) (qval (y :: l)) v x)
  | t8 (y : Int) (l : List Int) (x : Int) (h : QV N (y :: l)) : QTake N .no (qTt 8 (qenc (y :: l)) ((y :: l).length : Int) (qval (y :: l)) y x)
  | t9 (y : Int) (l : List Int) (x : Int) (h : QV N (y :: l)) : QTake N .no (qTt 9 (qenc (y :: l)) ((y :: l).length : Int) (qval l) y x)
  | t10 (y : Int) (l : List Int) (h : QV N (y :: l)) : QTake N .no (qTt 10 (qenc (y :: l)) ((y :: l).length : Int) (qval l) y (16 * qval l))
  | t11 (y : Int) (l : List Int) (h : QV N (y :: l)) : QTake N .no (qTt 11 (qenc (y :: l)) ((y :: l).length : Int) (qval l) y (16 * qval l + ((y :: l).length : Int)))
  | t12 (y : Int) (l : List Int) (n r : Int) (h : QV N (y :: l)) : QTake N .no (qTt 12 (qenc (y :: l)) n r y (qenc l))
  | t13a (a n r v : Int) : QTake N (.done v) (qTt 13 a n r v 1)
  | t13b (a n r v : Int) : QTake N .no (qTt 13 a n r v 0)
  | t14 (a n r v x : Int) : QTake N (.done v) (qTt 14 a n r v x)
  | t15 (a n r v x : Int) : QTake N (.done v) { qTt 15 a n r v x with told := [v] }
  | t16 (a n r v x : Int) : QTake N (.done (-1)) (qTt 16 a n r v x)
  | t17 (a n r x : Int) : QTake N (.done (-1)) (qTt 17 a n r (-1) x)
theorem qenc_div {l : List Int} (h : QV 8 l) : Int.tdiv (qenc l) 16 = qval l := by
  have h1 := (qenc_bd h).1
  have h2 := h.len
  have h3 := (qval_bd l h.bd).1
  rw [Int.tdiv_eq_ediv_of_nonneg h1]
  unfold qenc; omega
theorem qtake_step {N : Nat} {ph : Ph} {t : Th} (hN : 1 ≤ N ∧ N ≤ 8) (h : QTake N ph t) {l : List Int} (hl : QV N l) : QStep (QTake N) N false 0 ph l (vstep qtakeCode t [qenc l]) := by
  have stay : ∀ {t' : Th}, t'.err = 0 → t'.over = false → QTake N ph t' → vstep qtakeCode t [qenc l] = (t', [qenc l]) → QStep (QTake N) N false 0 ph l (vstep qtakeCode t [qenc l]) := fun h1 h2 h3 h4 => by
    rw [h4]; exact ⟨ph, l, rfl, hl, h1, .inl ⟨h2, .inl ⟨rfl, rfl⟩, h3⟩⟩
  have bd : ∀ {y : Int} {l : List Int}, QV N (y :: l) → 0 ≤ y ∧ y < 64 ∧ 0 ≤ qval l ∧ qval l < 4398046511104 ∧ ((y :: l).length : Int) = (l.length : Int) + 1 ∧ l.length ≤ 7 := by
    intro y l h
    have h1 := h.bd y List.mem_cons_self
    have h2 := qval_bd l fun z hz => h.bd z (List.mem_cons_of_mem _ hz)
    have h3 := h.len
    rw [List.length_cons] at h3
    have h4 := p64_bd7 (n := l.length) (by omega)
    rw [List.length_cons]
    omega
  cases h with
  | t0 => exact stay rfl rfl .t1 (qt_0 ..)
  | t1 => exact stay rfl rfl .t2 (qt_1 ..)
  | t2 => exact stay rfl rfl (.t3 ..) (qt_2 ..)
  | t3 a n r v x =>
    rw [qt_3]
    match l, hl with
    | [], hl => exact ⟨.done (-1), [], rfl, hl, rfl, .inl ⟨rfl, .inr (.inr (.inl ⟨rfl, rfl, rfl, rfl⟩)), .t4e n r v x⟩⟩
    | y :: l, hl => exact ⟨.no, y :: l, rfl, hl, rfl, .inl ⟨rfl, .inl ⟨rfl, rfl⟩, .t4 y l n r v x hl⟩⟩
  | t4e n r v x => exact stay rfl rfl (.t5e (qenc []) r v x) (qt_4 ..)
  | t4 y l2 n r v x h2 =>
    refine stay rfl rfl (.t5 y l2 r v x h2) ?_
    rw [qt_4, qenc_mod (h2.mono hN.2)]
  | t5e a r v x => exact stay rfl rfl (.t16 a 0 r v x) (by rw [qt_5, if_pos rfl])
  | t5 y l2 r v x h2 =>
    have := bd h2
    exact stay rfl rfl (.t6 y l2 r v x h2) (by rw [qt_5, if_neg (by omega)])
  | t6 y l2 r v x h2 =>
    have hb := bd h2
    refine stay rfl rfl (.t7 y l2 v x h2) ?_
    rw [qt_6, qenc_div (h2.mono hN.2), wrap_mid]
    · rw [qval]; omega
    · rw [qval]; omega
  | t7 y l2 v x h2 =>
    have hb := bd h2
    refine stay rfl rfl (.t8 y l2 x h2) ?_
    rw [qt_7]
    have e : Int.tmod (qval (y :: l2)) 64 = y := by
      rw [qval, Int.tmod_eq_emod_of_nonneg (by omega)]; omega
    rw [e]
  | t8 y l2 x h2 =>
    have hb := bd h2
    refine stay rfl rfl (.t9 y l2 x h2) ?_
    rw [qt_8]
    have e : wrap64 (Int.tdiv (qval (y :: l2)) 64) = qval l2 := by
      rw [qval, Int.tdiv_eq_ediv_of_nonneg (by omega), show (y + 64 * qval l2) / 64 = qval l2 by omega, wrap_mid (by omega) (by omega)]
    rw [e]
  | t9 y l2 x h2 =>
    have hb := bd h2
    refine stay rfl rfl (.t10 y l2 h2) ?_
    rw [qt_9, wrap_mid (by omega) (by omega), show qval l2 * 16 = 16 * qval l2 by omega]
  | t10 y l2 h2 =>
    have hb := bd h2
    refine stay rfl rfl (.t11 y l2 h2) ?_
    rw [qt_10, wrap_mid (by omega) (by omega)]
  | t11 y l2 h2 =>
    have hb := bd h2
    refine stay rfl rfl (.t12 y l2 ((y :: l2).length : Int) (qval l2) h2) ?_
    rw [qt_11, wrap_mid (by omega) (by omega)]
    unfold qenc
    rw [show 16 * qval l2 + ((y :: l2).length : Int) - 1 = (l2.length : Int) + 16 * qval l2 by omega]
  | t12 y l2 n r h2 =>
    rw [qt_12]
    split
    · rename_i e
      have e := qenc_inj (hl.mono hN.2) (h2.mono hN.2) e
      subst e
      exact ⟨.done y, l2, rfl, h2.tail, rfl, .inl ⟨rfl, .inr (.inr (.inl ⟨rfl, rfl, rfl, rfl⟩)), .t13a ..⟩⟩
    · exact ⟨.no, l, rfl, hl, rfl, .inl ⟨rfl, .inl ⟨rfl, rfl⟩, .t13b ..⟩⟩
  | t13a a n r v => exact stay rfl rfl (.t14 ..) (qt_13a ..)
  | t13b a n r v => exact stay rfl rfl (.t3 ..) (qt_13b ..)
  | t14 a n r v x => exact stay rfl rfl (.t15 ..) (qt_14 ..)
  | t15 a n r v x => rw [qt_15]; exact ⟨.done v, l, rfl, hl, rfl, .inr ⟨rfl, rfl, rfl, .inl ⟨v, rfl, rfl⟩⟩⟩
  | t16 a n r v x => exact stay rfl rfl (.t17 ..) (qt_16 ..)
  | t17 a n r x => rw [qt_17]; exact ⟨.done (-1), l, rfl, hl, rfl, .inr ⟨rfl, rfl, rfl, .inl ⟨-1, rfl, rfl⟩⟩⟩
end Go.Proofs.YtabmkjokeeakdaaDoor
