/-
  The queue, one call behind the other: plain.
-/
import Derived.Test.YtiinnkdhccgelaaDoorXTell
namespace Go.Proofs.YtiinnkdhccgelaaDoor
open Go.RowKit
set_option linter.unusedVariables false

theorem qput_loop {N : Nat} {v : Int} (hN : N ≤ 8) (hv : 0 ≤ v ∧ v < 64) (ws : List Int) (a f x : Int) : ∀ (r d : Nat), r + d ≤ 7 → Goes (qputCode N) (qPt N 9 v a (r : Int) f (16 * (v * p64 d)) x) ws (4 * r) (qPt N 9 v a 0 f (16 * (v * p64 (r + d))) x) ws
  | 0, d, _ => by rw [Nat.zero_add]; exact .none
  | r + 1, d, h => by
    have hb := vp_bd (d := d) hv (by omega)
    have ih := qput_loop hN hv ws a f x r (d + 1) (by omega)
    have e1 : vstep (qputCode N) (qPt N 9 v a ((r + 1 : Nat) : Int) f (16 * (v * p64 d)) x) ws = (qPt N 10 v a ((r + 1 : Nat) : Int) f (16 * (v * p64 d)) x, ws) := by rw [qp_9, if_neg (by omega)]
    have e2 : vstep (qputCode N) (qPt N 10 v a ((r + 1 : Nat) : Int) f (16 * (v * p64 d)) x) ws = (qPt N 11 v a ((r + 1 : Nat) : Int) f (16 * (v * p64 (d + 1))) x, ws) := by
      rw [qp_10, wrap_mid (by omega) (by omega), p64, Int.mul_left_comm v 64, show 16 * (v * p64 d) * 64 = 16 * (64 * (v * p64 d)) by omega]
    have e3 : vstep (qputCode N) (qPt N 11 v a ((r + 1 : Nat) : Int) f (16 * (v * p64 (d + 1))) x) ws = (qPt N 12 v a (r : Int) f (16 * (v * p64 (d + 1))) x, ws) := by
      rw [qp_11, wrap_mid (by omega) (by omega), show ((r + 1 : Nat) : Int) - 1 = (r : Int) by omega]
    have e4 : vstep (qputCode N) (qPt N 12 v a (r : Int) f (16 * (v * p64 (d + 1))) x) ws = (qPt N 9 v a (r : Int) f (16 * (v * p64 (d + 1))) x, ws) := qp_12 ..
    rw [show 4 * (r + 1) = 4 * r + 4 by omega, show r + 1 + d = r + (d + 1) by omega]
    exact .more e1 rfl (.more e2 rfl (.more e3 rfl (.more e4 rfl ih)))
theorem qput_ends {N : Nat} {v : Int} (hN : 1 ≤ N ∧ N ≤ 8) (hv : 0 ≤ v ∧ v < 64) {l : List Int} (hl : QV N l) :
    ∃ n t', n ≤ 60 ∧ Ends (qputCode N) (vbegin (qputCode N).length [v]) [qenc l] n t' [qenc (xres true N l true v).2] ∧ t'.err = 0 ∧ t'.told = [(xres true N l true v).1] := by
  have h0 : Goes (qputCode N) (vbegin (qputCode N).length [v]) [qenc l] 4 (qPt N 4 v 0 0 0 0 0) [qenc l] :=
    .more (qp_0 ..) rfl (.more (qp_1 ..) rfl (.more (qp_2 ..) rfl (.more (qp_3 ..) rfl .none)))
  have e5 : vstep (qputCode N) (qPt N 5 v (qenc l) 0 0 0 0) [qenc l] = (qPt N 6 v (qenc l) (l.length : Int) 0 0 0, [qenc l]) := by rw [qp_5, qenc_mod (hl.mono hN.2)]
  unfold xres
  rw [if_pos rfl]
  by_cases hf : l.length = N
  · rw [if_pos hf]
    have e6 : vstep (qputCode N) (qPt N 6 v (qenc l) (l.length : Int) 0 0 0) [qenc l] = (qPt N 7 v (qenc l) (l.length : Int) 1 0 0, [qenc l]) := by rw [qp_6, decide_eq_true (by omega)]; rfl
    exact ⟨_, _, by omega, h0.ends (.more (qp_4 ..) rfl (.more e5 rfl (.more e6 rfl (.more (qp_7a ..) rfl (.last (qp_19 ..) rfl))))), rfl, rfl⟩
  · rw [if_neg hf]
    have hlt : l.length < N := by have := hl.len; omega
    have hb := vp_bd (d := l.length) hv (by omega)
    have hq := qenc_bd (hl.mono hN.2)
    have e6 : vstep (qputCode N) (qPt N 6 v (qenc l) (l.length : Int) 0 0 0) [qenc l] = (qPt N 7 v (qenc l) (l.length : Int) 0 0 0, [qenc l]) := by rw [qp_6, decide_eq_false (by omega)]; rfl
    have e8 : vstep (qputCode N) (qPt N 8 v (qenc l) (l.length : Int) 0 0 0) [qenc l] = (qPt N 9 v (qenc l) (l.length : Int) 0 (16 * (v * p64 0)) 0, [qenc l]) := by
      rw [qp_8, wrap_mid (by omega) (by omega)]
      show _ = (qPt N 9 v (qenc l) (l.length : Int) 0 (16 * (v * 1)) 0, _)
      rw [show v * 16 = 16 * (v * 1) by omega]
    have h9 := qput_loop hN.2 hv [qenc l] (qenc l) 0 0 l.length 0 (by omega)
    rw [Nat.add_zero] at h9
    have e9 : vstep (qputCode N) (qPt N 9 v (qenc l) 0 0 (16 * (v * p64 l.length)) 0) [qenc l] = (qPt N 13 v (qenc l) 0 0 (16 * (v * p64 l.length)) 0, [qenc l]) := by rw [qp_9, if_pos rfl]
    have e13 : vstep (qputCode N) (qPt N 13 v (qenc l) 0 0 (16 * (v * p64 l.length)) 0) [qenc l] = (qPt N 14 v (qenc l) 0 0 (16 * (v * p64 l.length)) (qenc l + 16 * (v * p64 l.length)), [qenc l]) := by rw [qp_13, wrap_mid (by omega) (by omega)]
    have e14 : vstep (qputCode N) (qPt N 14 v (qenc l) 0 0 (16 * (v * p64 l.length)) (qenc l + 16 * (v * p64 l.length))) [qenc l] = (qPt N 15 v (qenc l) 0 0 (16 * (v * p64 l.length)) (qenc (l ++ [v])), [qenc l]) := by rw [qp_14, wrap_mid (by omega) (by omega), qenc_app]
    have e15 : vstep (qputCode N) (qPt N 15 v (qenc l) 0 0 (16 * (v * p64 l.length)) (qenc (l ++ [v]))) [qenc l] = (qPt N 16 v (qenc l) 0 0 (16 * (v * p64 l.length)) 1, [qenc (l ++ [v])]) := by rw [qp_15, if_pos rfl]
    have g1 : Goes (qputCode N) (qPt N 4 v 0 0 0 0 0) [qenc l] 5 (qPt N 9 v (qenc l) (l.length : Int) 0 (16 * (v * p64 0)) 0) [qenc l] := .more (qp_4 ..) rfl (.more e5 rfl (.more e6 rfl (.more (qp_7b ..) rfl (.more e8 rfl .none))))
    exact ⟨_, _, by omega, h0.ends (g1.ends (h9.ends (.more e9 rfl (.more e13 rfl (.more e14 rfl (.more e15 rfl (.more (qp_16a ..) rfl (.more (qp_17 ..) rfl (.last (qp_18 ..) rfl))))))))), rfl, rfl⟩
theorem qtake_ends {N : Nat} (hN : 1 ≤ N ∧ N ≤ 8) {l : List Int} (hl : QV N l) :
    ∃ n t', n ≤ 60 ∧ Ends qtakeCode (vbegin qtakeCode.length []) [qenc l] n t' [qenc (xres true N l false 0).2] ∧ t'.err = 0 ∧ t'.told = [(xres true N l false 0).1] := by
  have h0 : Goes qtakeCode (vbegin qtakeCode.length []) [qenc l] 3 (qTt 3 0 0 0 0 0) [qenc l] := .more (qt_0 ..) rfl (.more (qt_1 ..) rfl (.more (qt_2 ..) rfl .none))
  match l, hl with
  | [], hl =>
    have e4 : vstep qtakeCode (qTt 4 (qenc []) 0 0 0 0) [qenc []] = (qTt 5 (qenc []) 0 0 0 0, [qenc []]) := qt_4 ..
    have e5 : vstep qtakeCode (qTt 5 (qenc []) 0 0 0 0) [qenc []] = (qTt 16 (qenc []) 0 0 0 0, [qenc []]) := by rw [qt_5, if_pos rfl]
    exact ⟨_, _, by omega, h0.ends (.more (qt_3 ..) rfl (.more e4 rfl (.more e5 rfl (.more (qt_16 ..) rfl (.last (qt_17 ..) rfl))))), rfl, rfl⟩
  | y :: l, h2 =>
    have hb : 0 ≤ y ∧ y < 64 ∧ 0 ≤ qval l ∧ qval l < 4398046511104 ∧ ((y :: l).length : Int) = (l.length : Int) + 1 ∧ l.length ≤ 7 := by
      have h1 := h2.bd y List.mem_cons_self
      have h3 := qval_bd l fun z hz => h2.bd z (List.mem_cons_of_mem _ hz)
      have h4 := h2.len
      rw [List.length_cons] at h4
      have h5 := p64_bd7 (n := l.length) (by omega)
      rw [List.length_cons]
      omega
    have e4 : vstep qtakeCode (qTt 4 (qenc (y :: l)) 0 0 0 0) [qenc (y :: l)] = (qTt 5 (qenc (y :: l)) ((y :: l).length : Int) 0 0 0, [qenc (y :: l)]) := by rw [qt_4, qenc_mod (h2.mono hN.2)]
    have e5 : vstep qtakeCode (qTt 5 (qenc (y :: l)) ((y :: l).length : Int) 0 0 0) [qenc (y :: l)] = (qTt 6 (qenc (y :: l)) ((y :: l).length : Int) 0 0 0, [qenc (y :: l)]) := by rw [qt_5, if_neg (by omega)]
    have e6 : vstep qtakeCode (qTt 6 (qenc (y :: l)) ((y :: l).length : Int) 0 0 0) [qenc (y :: l)] = (qTt 7 (qenc (y :: l)) ((y :: l).length : Int) (qval (y :: l)) 0 0, [qenc (y :: l)]) := by
      rw [qt_6, qenc_div (h2.mono hN.2), wrap_mid]
      · rw [qval]; omega
      · rw [qval]; omega
    have e7 : vstep qtakeCode (qTt 7 (qenc (y :: l)) ((y :: l).length : Int) (qval (y :: l)) 0 0) [qenc (y :: l)] = (qTt 8 (qenc (y :: l)) ((y :: l).length : Int) (qval (y :: l)) y 0, [qenc (y :: l)]) := by
      rw [qt_7]
      have e : Int.tmod (qval (y :: l)) 64 = y := by rw [qval, Int.tmod_eq_emod_of_nonneg (by omega)]; omega
      rw [e]
    have e8 : vstep qtakeCode (qTt 8 (qenc (y :: l)) ((y :: l).length : Int) (qval (y :: l)) y 0) [qenc (y :: l)] = (qTt 9 (qenc (y :: l)) ((y :: l).length : Int) (qval l) y 0, [qenc (y :: l)]) := by
      rw [qt_8]
      have e : wrap64 (Int.tdiv (qval (y :: l)) 64) = qval l := by
        rw [qval, Int.tdiv_eq_ediv_of_nonneg (by omega), show (y + 64 * qval l) / 64 = qval l by omega, wrap_mid (by omega) (by omega)]
      rw [e]
    have e9 : vstep qtakeCode (qTt 9 (qenc (y :: l)) ((y :: l).length : Int) (qval l) y 0) [qenc (y :: l)] = (qTt 10 (qenc (y :: l)) ((y :: l).length : Int) (qval l) y (16 * qval l), [qenc (y :: l)]) := by
      rw [qt_9, wrap_mid (by omega) (by omega), show qval l * 16 = 16 * qval l by omega]
    have e10 : vstep qtakeCode (qTt 10 (qenc (y :: l)) ((y :: l).length : Int) (qval l) y (16 * qval l)) [qenc (y :: l)] = (qTt 11 (qenc (y :: l)) ((y :: l).length : Int) (qval l) y (16 * qval l + ((y :: l).length : Int)), [qenc (y :: l)]) := by
      rw [qt_10, wrap_mid (by omega) (by omega)]
    have e11 : vstep qtakeCode (qTt 11 (qenc (y :: l)) ((y :: l).length : Int) (qval l) y (16 * qval l + ((y :: l).length : Int))) [qenc (y :: l)] = (qTt 12 (qenc (y :: l)) ((y :: l).length : Int) (qval l) y (qenc l), [qenc (y :: l)]) := by
      rw [qt_11, wrap_mid (by omega) (by omega)]
      unfold qenc
      rw [show 16 * qval l + ((y :: l).length : Int) - 1 = (l.length : Int) + 16 * qval l by omega]
    have e12 : vstep qtakeCode (qTt 12 (qenc (y :: l)) ((y :: l).length : Int) (qval l) y (qenc l)) [qenc (y :: l)] = (qTt 13 (qenc (y :: l)) ((y :: l).length : Int) (qval l) y 1, [qenc l]) := by rw [qt_12, if_pos rfl]
    exact ⟨_, _, by omega, h0.ends (.more (qt_3 ..) rfl (.more e4 rfl (.more e5 rfl (.more e6 rfl (.more e7 rfl (.more e8 rfl (.more e9 rfl (.more e10 rfl (.more e11 rfl (.more e12 rfl (.more (qt_13a ..) rfl (.more (qt_14 ..) rfl (.last (qt_15 ..) rfl))))))))))))), rfl, rfl⟩
abbrev qtM (N : Nat) (f : Nat → Int) (kinds : List Bool) : Mach := xmach [0] (qputCode N) qtakeCode f kinds 20
theorem queue_tells {N : Nat} (hN : 1 ≤ N ∧ N ≤ 8) {f : Nat → Int} (hf : ∀ i, i < 20 → 0 ≤ f i ∧ f i < 64) (kinds : List Bool) :
    SerDs 0 20 (fun j => [xtold true N f kinds j]) (doings (play (qtM N f kinds) (List.replicate 5000 0)).evs) ∧ NoErr (play (qtM N f kinds) (List.replicate 5000 0)).evs := by
  have S := x_series (q := true) (N := N) (B := 60) (K := 20) (ws := [0]) (k1 := qputCode N) (k2 := qtakeCode) (f := f) (kinds := kinds) (I := fun _ l ws => ws = [qenc l] ∧ ∀ x ∈ l, 0 ≤ x ∧ x < 64)
    (fun j l v ws hj h1 h2 h3 => by
      obtain ⟨i, hi, rfl⟩ := h3
      obtain ⟨rfl, h1⟩ := h1
      obtain ⟨n, t', a1, a2, a3, a4⟩ := qput_ends hN (hf i hi) ⟨h2, h1⟩
      exact ⟨n, t', _, a1, a2, ⟨rfl, fun x hx => by rcases xres_mem hx with hx | ⟨_, rfl⟩; exact h1 x hx; exact hf i hi⟩, a3, a4⟩)
    (fun j l ws hj h1 h2 => by
      obtain ⟨rfl, h1⟩ := h1
      obtain ⟨n, t', a1, a2, a3, a4⟩ := qtake_ends hN ⟨h2, h1⟩
      exact ⟨n, t', _, a1, a2, ⟨rfl, fun x hx => by rcases xres_mem hx with hx | ⟨h, _⟩; exact h1 x hx; cases h⟩, a3, a4⟩)
  obtain ⟨h1, h2, _⟩ := S.play ⟨rfl, fun x hx => by cases hx⟩ (xcalls_len f kinds 20) (L := 5000) (by decide)
  exact ⟨h1, h2⟩
end Go.Proofs.YtiinnkdhccgelaaDoor
