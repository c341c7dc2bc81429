/-
  What a semaphore with room for one guards is not lost: plain. Written by gen_guardsm.py.
-/
import Derived.Test.YtbcjgnigdddlkaaDoorSemaLaw
import Derived.Test.YtbcjgnigdddlkaaDoorWStep
import Derived.Test.YtbcjgnigdddlkaaDoorGuardCnt
namespace Go.Proofs.YtbcjgnigdddlkaaDoor
open Go.RowKit
set_option linter.unusedVariables false

theorem lwrap {x : Int} (h0 : 0 ≤ x) (h1 : x ≤ 1000000) : wrap64 x = x := by unfold wrap64; omega
abbrev gT (pc : Nat) (a b : Int) : Th := ⟨a :: b :: List.replicate 22 0, pc, [], 0, false⟩
theorem g_0 (W : Nat) (ws : List Int) : vstep (gcode W) (gT 0 0 0) ws = (gT 1 0 1, ws) := rfl
theorem g_1 {W : Nat} {ws : List Int} (hw : W ≤ 200) (hl : W < ws.length) : vstep (gcode W) (gT 1 0 1) ws = (gT 2 (vget ws (W : Int)) 1, ws) :=
  vs_load (code := gcode W) (a := 0) (b := 5) (c := (W : Int)) (d := 0) (ad := (W : Int)) (t := gT 1 0 1) rfl rfl ((lwrap (x := (0 : Int) + (W : Int)) (by omega) (by omega)).trans (by omega)) (by omega) (by omega) rfl
theorem g_2 (W : Nat) (ws : List Int) (v : Int) : vstep (gcode W) (gT 2 v 1) ws = (gT 3 (wrap64 (v + 1)) 1, ws) := rfl
theorem g_3 {W : Nat} {ws : List Int} (hw : W ≤ 200) (hl : W < ws.length) (v : Int) : vstep (gcode W) (gT 3 v 1) ws = ({ gT 4 v 1 with over := true }, vset ws (W : Int) v) :=
  vs_store (code := gcode W) (a := 0) (b := 5) (c := (W : Int)) (d := 0) (ad := (W : Int)) (t := gT 3 v 1) rfl rfl ((lwrap (x := (0 : Int) + (W : Int)) (by omega) (by omega)).trans (by omega)) (by omega) (by omega) rfl
/-- who stays, whatever the words -/
def GQ (T : Th) : Prop := T = gT 0 0 0 ∨ T = gT 1 0 1 ∨ (∃ v, T = gT 2 v 1) ∨ ∃ v, T = gT 3 v 1
/-- who stays, by the word -/
def GW (w : Int) (T : Th) : Prop := T = gT 0 0 0 ∨ T = gT 1 0 1 ∨ T = gT 2 w 1 ∨ T = gT 3 (w + 1) 1

theorem enterw_0 (ws : List Int) : vstep enterCode semT0 ws = (semTh 1 0 0, ws) := rfl
theorem leavew_0 (ws : List Int) : vstep leaveCode semT0 ws = (semTh 1 0 0, ws) := rfl
theorem enterw_1 (x z w u : Int) : vstep enterCode (semTh 1 x z) [w, u] = (semTh 2 w z, [w, u]) := by
  unfold vstep vdo vother
  simp only [semTh, enterCode, List.getElem?_cons_succ, List.getElem?_cons_zero]
  simp [vget, vset, wrap64]
theorem leavew_1 (x z w u : Int) : vstep leaveCode (semTh 1 x z) [w, u] = (semTh 2 w z, [w, u]) := by
  unfold vstep vdo vother
  simp only [semTh, leaveCode, List.getElem?_cons_succ, List.getElem?_cons_zero]
  simp [vget, vset, wrap64]
theorem enterw_2 (x z : Int) (ws : List Int) : vstep enterCode (semTh 2 x z) ws = (if x = 0 then (semTh 1 x z, ws) else (semTh 3 x z, ws)) := by
  unfold vstep vdo vother
  simp only [semTh, enterCode, List.getElem?_cons_succ, List.getElem?_cons_zero]
  simp [vget]
  split <;> rfl
theorem enterw_3 (x z : Int) (ws : List Int) : vstep enterCode (semTh 3 x z) ws = (semTh 4 x (wrap64 (x - 1)), ws) := rfl
theorem leavew_2 (x z : Int) (ws : List Int) : vstep leaveCode (semTh 2 x z) ws = (semTh 3 x (wrap64 (x + 1)), ws) := rfl
theorem enterw_4 (x z w u : Int) : vstep enterCode (semTh 4 x z) [w, u] = (if w = x then (semTh 5 x 1, [z, u]) else (semTh 5 x 0, [w, u])) := by
  unfold vstep vdo vother
  simp only [semTh, enterCode, List.getElem?_cons_succ, List.getElem?_cons_zero]
  simp [vget, vset, wrap64]
  split <;> rfl
theorem leavew_3 (x z w u : Int) : vstep leaveCode (semTh 3 x z) [w, u] = (if w = x then (semTh 4 x 1, [z, u]) else (semTh 4 x 0, [w, u])) := by
  unfold vstep vdo vother
  simp only [semTh, leaveCode, List.getElem?_cons_succ, List.getElem?_cons_zero]
  simp [vget, vset, wrap64]
  split <;> rfl
theorem enterw_5a (x : Int) (ws : List Int) : vstep enterCode (semTh 5 x 1) ws = (semEnd 6 x 1, ws) := rfl
theorem enterw_5b (x : Int) (ws : List Int) : vstep enterCode (semTh 5 x 0) ws = (semTh 1 x 0, ws) := rfl
theorem leavew_4a (x : Int) (ws : List Int) : vstep leaveCode (semTh 4 x 1) ws = (semEnd 5 x 1, ws) := rfl
theorem leavew_4b (x : Int) (ws : List Int) : vstep leaveCode (semTh 4 x 0) ws = (semTh 1 x 0, ws) := rfl
def SemStep2 (ci nx : Nat) (sh : Th → Prop) (t : Th) (x : Nat) (u : Int) (r : Th × List Int) : Prop :=
  ∃ x' : Nat, r.2 = [(x' : Int), u] ∧ r.1.err = 0 ∧ ((r.1.over = false ∧ sh r.1 ∧ x' + b2n (semHold ⟨nx, some (ci, r.1)⟩) = x + b2n (semHold ⟨nx, some (ci, t)⟩)) ∨ (r.1.over = true ∧ x' = x ∧ semHold ⟨nx, some (ci, t)⟩ = (nx % 3 != 0)))
theorem enterw_ok (nx : Nat) (hnx : nx % 3 = 1) {t : Th} (h : EnterSh t) (x : Nat) (v : Int) (hx : x ≤ 4) : SemStep2 0 nx EnterSh t x v (vstep enterCode t [(x : Int), v]) := by
  rcases h with rfl | ⟨y, z, rfl⟩ | ⟨y, z, hy, rfl⟩ | ⟨y, z, hy, hy4, rfl⟩ | ⟨y, hy, rfl⟩ | ⟨y, rfl⟩ | ⟨y, rfl⟩
  · rw [enterw_0]; exact ⟨x, rfl, rfl, .inl ⟨rfl, .inr (.inl ⟨0, 0, rfl⟩), rfl⟩⟩
  · rw [enterw_1]; exact ⟨x, rfl, rfl, .inl ⟨rfl, .inr (.inr (.inl ⟨x, z, hx, rfl⟩)), rfl⟩⟩
  · rw [enterw_2]
    split
    · exact ⟨x, rfl, rfl, .inl ⟨rfl, .inr (.inl ⟨_, z, rfl⟩), rfl⟩⟩
    · exact ⟨x, rfl, rfl, .inl ⟨rfl, .inr (.inr (.inr (.inl ⟨y, z, by omega, hy, rfl⟩))), rfl⟩⟩
  · rw [enterw_3]
    obtain ⟨u, rfl⟩ : ∃ u, y = u + 1 := ⟨y - 1, by omega⟩
    have e : wrap64 (((u + 1 : Nat) : Int) - 1) = (u : Int) := by
      rw [wrap_sm (by omega) (by omega)]; omega
    rw [e]
    exact ⟨x, rfl, rfl, .inl ⟨rfl, .inr (.inr (.inr (.inr (.inl ⟨u, by omega, rfl⟩)))), rfl⟩⟩
  · rw [enterw_4]
    split
    · rename_i e
      have e : x = y + 1 := by omega
      subst e
      exact ⟨y, rfl, rfl, .inl ⟨rfl, .inr (.inr (.inr (.inr (.inr (.inl ⟨_, rfl⟩))))), rfl⟩⟩
    · exact ⟨x, rfl, rfl, .inl ⟨rfl, .inr (.inr (.inr (.inr (.inr (.inr ⟨_, rfl⟩))))), rfl⟩⟩
  · rw [enterw_5a]; exact ⟨x, rfl, rfl, .inr ⟨rfl, rfl, by rw [hnx]; rfl⟩⟩
  · rw [enterw_5b]; exact ⟨x, rfl, rfl, .inl ⟨rfl, .inr (.inl ⟨_, _, rfl⟩), rfl⟩⟩
theorem leavew_ok (nx : Nat) (hnx : nx % 3 = 0) {t : Th} (h : LeaveSh t) (x : Nat) (v : Int) (hx : x ≤ 4) : SemStep2 1 nx LeaveSh t x v (vstep leaveCode t [(x : Int), v]) := by
  rcases h with rfl | ⟨y, z, rfl⟩ | ⟨y, z, hy, rfl⟩ | ⟨y, hy, rfl⟩ | ⟨y, rfl⟩ | ⟨y, rfl⟩
  · rw [leavew_0]; exact ⟨x, rfl, rfl, .inl ⟨rfl, .inr (.inl ⟨0, 0, rfl⟩), rfl⟩⟩
  · rw [leavew_1]; exact ⟨x, rfl, rfl, .inl ⟨rfl, .inr (.inr (.inl ⟨x, z, hx, rfl⟩)), rfl⟩⟩
  · rw [leavew_2]
    have e : wrap64 ((y : Int) + 1) = ((y + 1 : Nat) : Int) := by
      rw [wrap_sm (by omega) (by omega)]; omega
    rw [e]
    exact ⟨x, rfl, rfl, .inl ⟨rfl, .inr (.inr (.inr (.inl ⟨y, hy, rfl⟩))), rfl⟩⟩
  · rw [leavew_3]
    split
    · rename_i e
      have e : x = y := by omega
      subst e
      exact ⟨x + 1, rfl, rfl, .inl ⟨rfl, .inr (.inr (.inr (.inr (.inl ⟨_, rfl⟩)))), rfl⟩⟩
    · exact ⟨x, rfl, rfl, .inl ⟨rfl, .inr (.inr (.inr (.inr (.inr ⟨_, rfl⟩)))), rfl⟩⟩
  · rw [leavew_4a]; exact ⟨x, rfl, rfl, .inr ⟨rfl, rfl, by rw [hnx]; rfl⟩⟩
  · rw [leavew_4b]; exact ⟨x, rfl, rfl, .inl ⟨rfl, .inr (.inl ⟨_, _, rfl⟩), rfl⟩⟩

/-- the machine -/
def gsm (n : Nat) : Mach := ⟨[1, 0], [enterCode, leaveCode, gcode 1], (List.range n).map fun _ => rcalls 1 6⟩
theorem gsm_call {n t nx : Nat} {calls : List VCall} {c : VCall} (h : (gsm n).threads[t]? = some calls) (hc : calls[nx]? = some c) : c = ⟨rcode nx, []⟩ := by
  unfold gsm at h
  simp only at h
  rw [List.getElem?_map] at h
  obtain ⟨u, hu, rfl⟩ := Option.map_eq_some_iff.1 h
  exact rcalls_at (by decide) 6 nx c hc
/-- what every run keeps -/
structure SG (i : Nat) (ths : List PT) (ws : List Int) (ds : List Dg) : Prop where
  w : ∃ x : Nat, ws = [(x : Int), (dE ds : Int)] ∧ x + cntI (fun _ => semHold) 0 ths = 1
  most : dE ds ≤ i
  th : ∀ (n nx ci : Nat) (t : Th), ths[n]? = some ⟨nx, some (ci, t)⟩ → (ci = 0 ∧ nx % 3 = 1 ∧ EnterSh t) ∨ (ci = 2 ∧ nx % 3 = 2 ∧ GW (dE ds : Int) t) ∨ (ci = 1 ∧ nx % 3 = 0 ∧ LeaveSh t)
theorem SG.put {i j : Nat} {ths : List PT} {ws : List Int} {ds ds' : List Dg} (h : SG i ths ws ds) (hj : i ≤ j) (hd : dE ds' = dE ds) {n : Nat} {p q : PT} (hn : ths[n]? = some p) {x' : Nat} (hx : ∀ x : Nat, ws = [(x : Int), (dE ds : Int)] → x' + b2n (semHold q) = x + b2n (semHold p))
    (hq : ∀ nx ci t, q = ⟨nx, some (ci, t)⟩ → (ci = 0 ∧ nx % 3 = 1 ∧ EnterSh t) ∨ (ci = 2 ∧ nx % 3 = 2 ∧ GW (dE ds : Int) t) ∨ (ci = 1 ∧ nx % 3 = 0 ∧ LeaveSh t)) : SG j (ths.set n q) [(x' : Int), (dE ds : Int)] ds' := by
  obtain ⟨x, hw, hc⟩ := h.w
  refine ⟨⟨x', by rw [hd], ?_⟩, by rw [hd]; exact Nat.le_trans h.most hj, fun n' nx' ci t hn' => ?_⟩
  · have h1 := cntI_set0 (fun _ => semHold) q hn
    have h2 := hx x hw
    omega
  · rw [hd]
    rcases get_set hn' with ⟨_, e⟩ | ⟨_, e⟩
    · exact hq nx' ci t e.symm
    · exact h.th n' nx' ci t e
/-- two that hold -/
theorem two_hold {ths : List PT} {n u : Nat} {p q : PT} (hn : ths[n]? = some p) (hu : ths[u]? = some q) (hne : u ≠ n) (hp : semHold p = true) (hq : semHold q = true) : 2 ≤ cntI (fun _ => semHold) 0 ths := by
  have h1 := cntI_set0 (fun _ => semHold) (⟨0, none⟩ : PT) hn
  have hu' : (ths.set n ⟨0, none⟩)[u]? = some q := by rw [List.getElem?_set_ne (fun e => hne e.symm)]; exact hu
  have h2 := cntI_set0 (fun _ => semHold) (⟨0, none⟩ : PT) hu'
  simp only [hp, hq] at h1 h2
  have e0 : b2n (semHold (⟨0, none⟩ : PT)) = 0 := rfl
  have e1 : b2n true = 1 := rfl
  omega
theorem guards_keeps (n : Nat) {l : List Nat} (hl : l.length ≤ 6000) : PKeeps (gsm n) l (fun i ths ws ds => SG i ths ws ds) where
  idle := fun i s t hi hD h hn => ⟨h.w, Nat.le_succ_of_le h.most, h.th⟩
  begin_ := by
    intro i s n' nx calls c hi hD h hn hc hcc
    have e := gsm_call hc hcc
    subst e
    obtain ⟨x, hx, _⟩ := h.w
    rw [hx]
    refine h.put (Nat.le_refl _) (dE_snoc _ _ rfl) hn (fun y hy => ?_) fun nx' ci t e => ?_
    · rw [hx] at hy; injection hy with hy _
      have : x = y := by omega
      subst this
      congr 1
      unfold rcode
      rcases (show nx % 3 = 0 ∨ nx % 3 = 1 ∨ nx % 3 = 2 by omega) with h3 | h3 | h3 <;> simp only [h3] <;> simp [semHold, h3, gsm, vbegin]
      all_goals decide
    · injection e with e1 e; injection e with e; injection e with e2 e3
      subst e1 e2 e3
      unfold rcode
      rcases (show nx % 3 = 0 ∨ nx % 3 = 1 ∨ nx % 3 = 2 by omega) with h3 | h3 | h3 <;> simp only [h3]
      · exact .inl ⟨rfl, by omega, .inl rfl⟩
      · exact .inr (.inl ⟨rfl, by omega, .inl rfl⟩)
      · exact .inr (.inr ⟨rfl, by omega, .inl rfl⟩)
  cont := by
    intro i s n' nx ci t hi hD h hn hov
    obtain ⟨x, hx, hc⟩ := h.w
    have hs := h.th n' nx ci t hn
    have hi6 : i ≤ 6000 := by have := (List.getElem?_eq_some_iff.1 hi).1; omega
    have hm := h.most
    rw [hx] at hov ⊢
    have hxx : ∀ y : Nat, s.words = [(y : Int), (dE (doings s.evs) : Int)] → x = y := fun y hy => by rw [hx] at hy; injection hy with hy _; omega
    rcases hs with ⟨rfl, h3, hE⟩ | ⟨rfl, h3, hE⟩ | ⟨rfl, h3, hE⟩
    · obtain ⟨x', e1, e2, e3⟩ := enterw_ok nx h3 hE x (dE (doings s.evs) : Int) (by omega)
      have hov : (vstep enterCode t [(x : Int), (dE (doings s.evs) : Int)]).1.over = false := hov
      show SG (i + 1) (s.ths.set n' ⟨nx, some (0, (vstep enterCode t [(x : Int), (dE (doings s.evs) : Int)]).1)⟩) (vstep enterCode t [(x : Int), (dE (doings s.evs) : Int)]).2 _
      rcases e3 with ⟨_, e4, e5⟩ | ⟨e4, _⟩
      · rw [e1]
        refine h.put (Nat.le_succ i) rfl hn (fun y hy => by rw [← hxx y hy]; exact e5) fun nx' ci t e => ?_
        injection e with e6 e; injection e with e; injection e with e7 e8
        subst e6 e7 e8
        exact .inl ⟨rfl, h3, e4⟩
      · rw [e4] at hov; cases hov
    · have hov : (vstep (gcode 1) t [(x : Int), (dE (doings s.evs) : Int)]).1.over = false := hov
      have key : (vstep (gcode 1) t [(x : Int), (dE (doings s.evs) : Int)]).2 = [(x : Int), (dE (doings s.evs) : Int)] ∧ GW (dE (doings s.evs) : Int) (vstep (gcode 1) t [(x : Int), (dE (doings s.evs) : Int)]).1 := by
        rcases hE with rfl | rfl | rfl | rfl
        · rw [g_0]; exact ⟨rfl, .inr (.inl rfl)⟩
        · rw [g_1 (by decide) (by simp)]; exact ⟨rfl, .inr (.inr (.inl rfl))⟩
        · rw [g_2, lwrap (by omega) (by omega)]; exact ⟨rfl, .inr (.inr (.inr rfl))⟩
        · rw [g_3 (by decide) (by simp)] at hov; cases hov
      show SG (i + 1) (s.ths.set n' ⟨nx, some (2, (vstep (gcode 1) t [(x : Int), (dE (doings s.evs) : Int)]).1)⟩) (vstep (gcode 1) t [(x : Int), (dE (doings s.evs) : Int)]).2 _
      rw [key.1]
      refine h.put (Nat.le_succ i) rfl hn (fun y hy => by rw [← hxx y hy]; rfl) fun nx' ci t e => ?_
      injection e with e6 e; injection e with e; injection e with e7 e8
      subst e6 e7 e8
      exact .inr (.inl ⟨rfl, h3, key.2⟩)
    · obtain ⟨x', e1, e2, e3⟩ := leavew_ok nx h3 hE x (dE (doings s.evs) : Int) (by omega)
      have hov : (vstep leaveCode t [(x : Int), (dE (doings s.evs) : Int)]).1.over = false := hov
      show SG (i + 1) (s.ths.set n' ⟨nx, some (1, (vstep leaveCode t [(x : Int), (dE (doings s.evs) : Int)]).1)⟩) (vstep leaveCode t [(x : Int), (dE (doings s.evs) : Int)]).2 _
      rcases e3 with ⟨_, e4, e5⟩ | ⟨e4, _⟩
      · rw [e1]
        refine h.put (Nat.le_succ i) rfl hn (fun y hy => by rw [← hxx y hy]; exact e5) fun nx' ci t e => ?_
        injection e with e6 e; injection e with e; injection e with e7 e8
        subst e6 e7 e8
        exact .inr (.inr ⟨rfl, h3, e4⟩)
      · rw [e4] at hov; cases hov
  fin_ := by
    intro i s n' nx ci t k d hi hD h hn hov hk ht hdc he htold
    obtain ⟨x, hx, hc⟩ := h.w
    have hs := h.th n' nx ci t hn
    have hi6 : i ≤ 6000 := by have := (List.getElem?_eq_some_iff.1 hi).1; omega
    have hm := h.most
    have hpos : 1 ≤ nx := hD.pos n' _ hn rfl
    have hds := dE_set (d' := { d with e := some i, told := (vstep ((gsm n).codes.getD ci []) t s.words).1.told }) hk he rfl rfl
    generalize (doings s.evs).set k { d with e := some i, told := (vstep ((gsm n).codes.getD ci []) t s.words).1.told } = ds' at hds ⊢
    rw [hx] at hov ⊢
    have hxx : ∀ y : Nat, s.words = [(y : Int), (dE (doings s.evs) : Int)] → x = y := fun y hy => by rw [hx] at hy; injection hy with hy _; omega
    have hq : ∀ nx' ci t, (⟨nx, none⟩ : PT) = ⟨nx', some (ci, t)⟩ → (ci = 0 ∧ nx' % 3 = 1 ∧ EnterSh t) ∨ (ci = 2 ∧ nx' % 3 = 2 ∧ GW (dE (doings s.evs) : Int) t) ∨ (ci = 1 ∧ nx' % 3 = 0 ∧ LeaveSh t) := fun nx' ci t e => by cases e
    rcases hs with ⟨rfl, h3, hE⟩ | ⟨rfl, h3, hE⟩ | ⟨rfl, h3, hE⟩
    · obtain ⟨x', e1, e2, e3⟩ := enterw_ok nx h3 hE x (dE (doings s.evs) : Int) (by omega)
      have hov : (vstep enterCode t [(x : Int), (dE (doings s.evs) : Int)]).1.over = true := hov
      have hcc : (d.c % 3 == 1) = false := by rw [hdc]; simp; omega
      rw [hcc] at hds
      rcases e3 with ⟨e4, _⟩ | ⟨_, e4, e5⟩
      · rw [e4] at hov; cases hov
      · subst e4
        refine ⟨?_, e2⟩
        show SG (i + 1) (s.ths.set n' ⟨nx, none⟩) (vstep enterCode t [(x' : Int), (dE (doings s.evs) : Int)]).2 ds'
        rw [e1]
        exact h.put (Nat.le_succ i) hds hn (fun y hy => by rw [← hxx y hy, e5]; rfl) hq
    · have hov : (vstep (gcode 1) t [(x : Int), (dE (doings s.evs) : Int)]).1.over = true := hov
      have hcc : (d.c % 3 == 1) = true := by rw [hdc]; simp; omega
      rw [hcc] at hds
      have hE2 : dE ds' = dE (doings s.evs) + 1 := hds
      have key : (vstep (gcode 1) t [(x : Int), (dE (doings s.evs) : Int)]).2 = [(x : Int), ((dE (doings s.evs) + 1 : Nat) : Int)] ∧ (vstep (gcode 1) t [(x : Int), (dE (doings s.evs) : Int)]).1.err = 0 := by
        rcases hE with rfl | rfl | rfl | rfl
        · rw [g_0] at hov; cases hov
        · rw [g_1 (by decide) (by simp)] at hov; cases hov
        · rw [g_2] at hov; cases hov
        · rw [g_3 (by decide) (by simp)]; exact ⟨rfl, rfl⟩
      refine ⟨?_, key.2⟩
      show SG (i + 1) (s.ths.set n' ⟨nx, none⟩) (vstep (gcode 1) t [(x : Int), (dE (doings s.evs) : Int)]).2 ds'
      rw [key.1]
      refine ⟨⟨x, by rw [hE2], ?_⟩, by rw [hE2]; omega, fun u nx' ci' t' hu => ?_⟩
      · have h1 := cntI_set0 (fun _ => semHold) (⟨nx, none⟩ : PT) hn
        have e1 : semHold (⟨nx, none⟩ : PT) = true := by simp [semHold, h3]
        have e2 : semHold (⟨nx, some (2, t)⟩ : PT) = true := rfl
        simp only [e1, e2] at h1
        omega
      · rcases get_set hu with ⟨_, e⟩ | ⟨hne, hu⟩
        · cases e
        · rcases h.th u nx' ci' t' hu with a | ⟨rfl, _, _⟩ | a
          · exact .inl a
          · exfalso
            have := two_hold hn hu hne rfl rfl
            omega
          · exact .inr (.inr a)
    · obtain ⟨x', e1, e2, e3⟩ := leavew_ok nx h3 hE x (dE (doings s.evs) : Int) (by omega)
      have hov : (vstep leaveCode t [(x : Int), (dE (doings s.evs) : Int)]).1.over = true := hov
      have hcc : (d.c % 3 == 1) = false := by rw [hdc]; simp; omega
      rw [hcc] at hds
      rcases e3 with ⟨e4, _⟩ | ⟨_, e4, e5⟩
      · rw [e4] at hov; cases hov
      · subst e4
        refine ⟨?_, e2⟩
        show SG (i + 1) (s.ths.set n' ⟨nx, none⟩) (vstep leaveCode t [(x' : Int), (dE (doings s.evs) : Int)]).2 ds'
        rw [e1]
        exact h.put (Nat.le_succ i) hds hn (fun y hy => by rw [← hxx y hy, e5]; rfl) hq
theorem cnt0 : ∀ (k b : Nat), cntI (fun _ => semHold) b (List.replicate k (⟨0, none⟩ : PT)) = 0
  | 0, _ => rfl
  | k + 1, b => by
    rw [List.replicate_succ]
    show b2n (semHold (⟨0, none⟩ : PT)) + cntI _ (b + 1) (List.replicate k _) = 0
    rw [cnt0 k (b + 1)]; rfl
/-- nothing is lost, and one at most is at it -/
theorem guards_play (n : Nat) {l : List Nat} (hl : l.length ≤ 6000) :
    (play (gsm n) l).words.length = 2 ∧ (play (gsm n) l).words[1]? = some (kE (play (gsm n) l).evs : Int) ∧ kB (play (gsm n) l).evs ≤ kE (play (gsm n) l).evs + 1 ∧ NoErr (play (gsm n) l).evs := by
  obtain ⟨g, hN⟩ := (guards_keeps n hl).play ⟨⟨1, rfl, by
    unfold pinit
    show 1 + cntI _ 0 (List.replicate _ _) = 1
    rw [cnt0]⟩, Nat.le_refl _, fun t nx ci T hu => by
    unfold pinit at hu
    simp only [List.getElem?_replicate] at hu
    split at hu
    · injection hu with hu; injection hu with _ hu; cases hu
    · cases hu⟩
  have hD := play_di (gsm n) l
  obtain ⟨k1, k2⟩ := k_doings (fun j k d d' hj hk ht hc => hD.uniq j k d d' hj hk ht hc) (play_fin (gsm n) l)
  obtain ⟨x, hw, hc⟩ := g.w
  refine ⟨by rw [hw]; rfl, by rw [hw, k1]; rfl, ?_, hN⟩
  rw [k1, k2, dB_dE]
  have := filter_one (P := fun d => d.c % 3 == 1 && d.e.isNone) (ds := doings (play (gsm n) l).evs) (fun j k d d' hj hk hp hp' => by
    have key : ∀ {j : Nat} {d : Dg}, (doings (play (gsm n) l).evs)[j]? = some d → (d.c % 3 == 1 && d.e.isNone) = true → ∃ p, (play (gsm n) l).ths[d.t]? = some p ∧ d.c + 1 = p.next ∧ semHold p = true := by
      intro j d hj hp
      simp only [Bool.and_eq_true, beq_iff_eq] at hp
      obtain ⟨hp1, hp2⟩ := hp
      have he : d.e = none := by simpa using hp2
      obtain ⟨p, hpp, _, hx⟩ := hD.lt j d hj
      obtain ⟨y1, y2⟩ := hx.1 he
      refine ⟨p, hpp, y2, ?_⟩
      obtain ⟨nx, cur⟩ := p
      cases cur with
      | none => cases y1
      | some x =>
        obtain ⟨ci, T⟩ := x
        simp only at y2
        rcases g.th _ nx ci T hpp with ⟨_, c1, _⟩ | ⟨rfl, _, _⟩ | ⟨_, c1, _⟩
        · omega
        · rfl
        · omega
    obtain ⟨p, q1, q2, q3⟩ := key hj hp
    obtain ⟨p', r1, r2, r3⟩ := key hk hp'
    have ht : d.t = d'.t := Classical.byContradiction fun hne => by
      have := two_hold q1 r1 (fun e => hne e.symm) q3 r3
      omega
    refine hD.uniq j k d d' hj hk ht ?_
    rw [ht, r1] at q1
    injection q1 with q1
    subst q1
    omega)
  omega
end Go.Proofs.YtbcjgnigdddlkaaDoor
