/-
  Package sema under whatever schedule: plain laws.
-/
import Derived.Test.YtbcjgnigdddlkaaDoorInside
import Derived.Test.YtbcjgnigdddlkaaDoorRDef
import Derived.Test.YtbcjgnigdddlkaaDoorCodes2
namespace Go.Proofs.YtbcjgnigdddlkaaDoor
open Go.RowKit
set_option linter.unusedVariables false

/-! ### a machine of rounds -/
theorem rround_w {work : Nat} (hw : 0 < work) : rround work = [⟨0, []⟩, ⟨2, []⟩, ⟨1, []⟩] := by unfold rround; rw [if_pos hw]
theorem rcalls_lenw {work : Nat} (hw : 0 < work) : ∀ n, (rcalls work n).length = 3 * n
  | 0 => rfl
  | n + 1 => by rw [rcalls, List.length_append, rcalls_lenw hw n, rround_w hw]; simp; omega
/-- which code a thread calls -/
def rcode (nx : Nat) : Nat := if nx % 3 = 0 then 0 else if nx % 3 = 1 then 2 else 1
theorem rcalls_at {work : Nat} (hw : 0 < work) : ∀ (n nx : Nat) (c : VCall), (rcalls work n)[nx]? = some c → c = ⟨rcode nx, []⟩
  | 0, nx, c, h => by simp [rcalls] at h
  | n + 1, nx, c, h => by
    rw [rcalls, List.getElem?_append, rcalls_lenw hw] at h
    split at h
    · exact rcalls_at hw n nx c h
    · rename_i hl
      rw [rround_w hw] at h
      obtain ⟨r, hr⟩ : ∃ r, nx = 3 * n + r := ⟨nx - 3 * n, by omega⟩
      subst hr
      rw [Nat.add_sub_cancel_left] at h
      have e : (3 * n + r) % 3 = r % 3 := by omega
      unfold rcode
      rw [e]
      match r, h with
      | 0, h => simp at h; rw [← h]; rfl
      | 1, h => simp at h; rw [← h]; rfl
      | 2, h => simp at h; rw [← h]; rfl
      | r + 3, h => simp at h
theorem rmach_call {ws : List Int} {k1 k2 : List Op5} {often work n nx : Nat} {calls : List VCall} {c : VCall} (hw : 0 < work) (h : (rmach ws k1 k2 often work).threads[n]? = some calls) (hc : calls[nx]? = some c) : c = ⟨rcode nx, []⟩ := by
  unfold rmach at h
  simp only at h
  rw [List.getElem?_map] at h
  obtain ⟨u, hu, rfl⟩ := Option.map_eq_some_iff.1 h
  have hu4 : u < 4 := by
    have := List.mem_of_getElem? hu
    exact List.mem_range.1 this
  unfold rths at hc
  rw [if_pos hu4] at hc
  exact rcalls_at hw often nx c hc
theorem lops_k (work : Nat) : ∀ o ∈ lops work work, o.k = 1 := by
  intro o ho
  have e : lops work work = (List.range work).map (fun (i : Nat) => (⟨1, 0, (i : Int), 0, 0⟩ : Op5)) := by simp [lops]
  rw [e, List.mem_map] at ho
  obtain ⟨i, _, rfl⟩ := ho
  rfl
/-- work touches nothing -/
theorem lops_step (work : Nat) (t : Th) (ws : List Int) (h : t.err = 0) : (vstep (lops work work) t ws).2 = ws ∧ (vstep (lops work work) t ws).1.err = 0 := by
  unfold vstep
  split
  · exact ⟨rfl, h⟩
  · split
    · exact ⟨rfl, h⟩
    · rename_i o ho
      have hk := lops_k work o (List.mem_of_getElem? ho)
      simp only
      unfold vdo
      simp only
      rw [if_pos hk]
      exact ⟨rfl, h⟩
theorem wrap_sm {x : Int} (h0 : -1000000 ≤ x) (h1 : x ≤ 1000000) : wrap64 x = x := by unfold wrap64; omega
/-! ### one step of Enter, one of Leave -/
/-- a thread within Enter or Leave: what it last saw, and what it made of it -/
def semTh (p : Nat) (x z : Int) : Th := ⟨1 :: x :: 0 :: z :: List.replicate 20 0, p, [], 0, false⟩
def semT0 : Th := ⟨List.replicate 24 0, 0, [], 0, false⟩
def semEnd (n : Nat) (x z : Int) : Th := ⟨1 :: x :: 0 :: z :: List.replicate 20 0, n, [], 0, true⟩
theorem enter_begin : vbegin enterCode.length [] = semT0 := rfl
theorem leave_begin : vbegin leaveCode.length [] = semT0 := rfl
theorem enter_0 (ws : List Int) : vstep enterCode semT0 ws = (semTh 1 0 0, ws) := rfl
theorem leave_0 (ws : List Int) : vstep leaveCode semT0 ws = (semTh 1 0 0, ws) := rfl
theorem enter_1 (x z w : Int) : vstep enterCode (semTh 1 x z) [w] = (semTh 2 w z, [w]) := by
  unfold vstep vdo vother
  simp only [semTh, enterCode, List.getElem?_cons_succ, List.getElem?_cons_zero]
  simp [vget, vset, wrap64]
theorem leave_1 (x z w : Int) : vstep leaveCode (semTh 1 x z) [w] = (semTh 2 w z, [w]) := by
  unfold vstep vdo vother
  simp only [semTh, leaveCode, List.getElem?_cons_succ, List.getElem?_cons_zero]
  simp [vget, vset, wrap64]
theorem enter_2 (x z : Int) (ws : List Int) : vstep enterCode (semTh 2 x z) ws = (if x = 0 then (semTh 1 x z, ws) else (semTh 3 x z, ws)) := by
  unfold vstep vdo vother
  simp only [semTh, enterCode, List.getElem?_cons_succ, List.getElem?_cons_zero]
  simp [vget]
  split <;> rfl
theorem enter_3 (x z : Int) (ws : List Int) : vstep enterCode (semTh 3 x z) ws = (semTh 4 x (wrap64 (x - 1)), ws) := rfl
theorem leave_2 (x z : Int) (ws : List Int) : vstep leaveCode (semTh 2 x z) ws = (semTh 3 x (wrap64 (x + 1)), ws) := rfl
theorem enter_4 (x z w : Int) : vstep enterCode (semTh 4 x z) [w] = (if w = x then (semTh 5 x 1, [z]) else (semTh 5 x 0, [w])) := by
  unfold vstep vdo vother
  simp only [semTh, enterCode, List.getElem?_cons_succ, List.getElem?_cons_zero]
  simp [vget, vset, wrap64]
  split <;> rfl
theorem leave_3 (x z w : Int) : vstep leaveCode (semTh 3 x z) [w] = (if w = x then (semTh 4 x 1, [z]) else (semTh 4 x 0, [w])) := by
  unfold vstep vdo vother
  simp only [semTh, leaveCode, List.getElem?_cons_succ, List.getElem?_cons_zero]
  simp [vget, vset, wrap64]
  split <;> rfl
theorem enter_5a (x : Int) (ws : List Int) : vstep enterCode (semTh 5 x 1) ws = (semEnd 6 x 1, ws) := rfl
theorem enter_5b (x : Int) (ws : List Int) : vstep enterCode (semTh 5 x 0) ws = (semTh 1 x 0, ws) := rfl
theorem leave_4a (x : Int) (ws : List Int) : vstep leaveCode (semTh 4 x 1) ws = (semEnd 5 x 1, ws) := rfl
theorem leave_4b (x : Int) (ws : List Int) : vstep leaveCode (semTh 4 x 0) ws = (semTh 1 x 0, ws) := rfl
def semHold (p : PT) : Bool :=
  match p.cur with
  | none => p.next % 3 != 0
  | some (ci, t) => if ci = 0 then t.pc == 5 && vget t.regs 3 == 1 else if ci = 1 then !(t.pc == 4 && vget t.regs 3 == 1) else true
def EnterSh (t : Th) : Prop := t = semT0 ∨ (∃ x z, t = semTh 1 x z) ∨ (∃ (x : Nat) (z : Int), x ≤ 4 ∧ t = semTh 2 x z) ∨ (∃ (x : Nat) (z : Int), 1 ≤ x ∧ x ≤ 4 ∧ t = semTh 3 x z) ∨ (∃ x : Nat, x ≤ 3 ∧ t = semTh 4 ((x + 1 : Nat) : Int) (x : Int)) ∨ (∃ x, t = semTh 5 x 1) ∨ (∃ x, t = semTh 5 x 0)
def LeaveSh (t : Th) : Prop := t = semT0 ∨ (∃ x z, t = semTh 1 x z) ∨ (∃ (x : Nat) (z : Int), x ≤ 4 ∧ t = semTh 2 x z) ∨ (∃ x : Nat, x ≤ 4 ∧ t = semTh 3 (x : Int) ((x + 1 : Nat) : Int)) ∨ (∃ x, t = semTh 4 x 1) ∨ (∃ x, t = semTh 4 x 0)
/-- what one step of such a code does: the room that is left, and who holds -/
def SemStep (ci nx : Nat) (sh : Th → Prop) (t : Th) (x : Nat) (r : Th × List Int) : Prop :=
  ∃ x' : Nat, r.2 = [(x' : Int)] ∧ r.1.err = 0 ∧ ((r.1.over = false ∧ sh r.1 ∧ x' + b2n (semHold ⟨nx, some (ci, r.1)⟩) = x + b2n (semHold ⟨nx, some (ci, t)⟩)) ∨ (r.1.over = true ∧ x' = x ∧ semHold ⟨nx, some (ci, t)⟩ = (nx % 3 != 0)))
theorem enter_ok (nx : Nat) (hnx : nx % 3 = 1) {t : Th} (h : EnterSh t) (x : Nat) (hx : x ≤ 4) : SemStep 0 nx EnterSh t x (vstep enterCode t [(x : Int)]) := by
  rcases h with rfl | ⟨y, z, rfl⟩ | ⟨y, z, hy, rfl⟩ | ⟨y, z, hy, hy4, rfl⟩ | ⟨y, hy, rfl⟩ | ⟨y, rfl⟩ | ⟨y, rfl⟩
  · rw [enter_0]; exact ⟨x, rfl, rfl, .inl ⟨rfl, .inr (.inl ⟨0, 0, rfl⟩), rfl⟩⟩
  · rw [enter_1]; exact ⟨x, rfl, rfl, .inl ⟨rfl, .inr (.inr (.inl ⟨x, z, hx, rfl⟩)), rfl⟩⟩
  · rw [enter_2]
    split
    · exact ⟨x, rfl, rfl, .inl ⟨rfl, .inr (.inl ⟨_, z, rfl⟩), rfl⟩⟩
    · exact ⟨x, rfl, rfl, .inl ⟨rfl, .inr (.inr (.inr (.inl ⟨y, z, by omega, hy, rfl⟩))), rfl⟩⟩
  · rw [enter_3]
    obtain ⟨u, rfl⟩ : ∃ u, y = u + 1 := ⟨y - 1, by omega⟩
    have e : wrap64 (((u + 1 : Nat) : Int) - 1) = (u : Int) := by
      rw [wrap_sm (by omega) (by omega)]; omega
    rw [e]
    exact ⟨x, rfl, rfl, .inl ⟨rfl, .inr (.inr (.inr (.inr (.inl ⟨u, by omega, rfl⟩)))), rfl⟩⟩
  · rw [enter_4]
    split
    · rename_i e
      have e : x = y + 1 := by omega
      subst e
      exact ⟨y, rfl, rfl, .inl ⟨rfl, .inr (.inr (.inr (.inr (.inr (.inl ⟨_, rfl⟩))))), rfl⟩⟩
    · exact ⟨x, rfl, rfl, .inl ⟨rfl, .inr (.inr (.inr (.inr (.inr (.inr ⟨_, rfl⟩))))), rfl⟩⟩
  · rw [enter_5a]; exact ⟨x, rfl, rfl, .inr ⟨rfl, rfl, by rw [hnx]; rfl⟩⟩
  · rw [enter_5b]; exact ⟨x, rfl, rfl, .inl ⟨rfl, .inr (.inl ⟨_, _, rfl⟩), rfl⟩⟩
theorem leave_ok (nx : Nat) (hnx : nx % 3 = 0) {t : Th} (h : LeaveSh t) (x : Nat) (hx : x ≤ 4) : SemStep 1 nx LeaveSh t x (vstep leaveCode t [(x : Int)]) := by
  rcases h with rfl | ⟨y, z, rfl⟩ | ⟨y, z, hy, rfl⟩ | ⟨y, hy, rfl⟩ | ⟨y, rfl⟩ | ⟨y, rfl⟩
  · rw [leave_0]; exact ⟨x, rfl, rfl, .inl ⟨rfl, .inr (.inl ⟨0, 0, rfl⟩), rfl⟩⟩
  · rw [leave_1]; exact ⟨x, rfl, rfl, .inl ⟨rfl, .inr (.inr (.inl ⟨x, z, hx, rfl⟩)), rfl⟩⟩
  · rw [leave_2]
    have e : wrap64 ((y : Int) + 1) = ((y + 1 : Nat) : Int) := by
      rw [wrap_sm (by omega) (by omega)]; omega
    rw [e]
    exact ⟨x, rfl, rfl, .inl ⟨rfl, .inr (.inr (.inr (.inl ⟨y, hy, rfl⟩))), rfl⟩⟩
  · rw [leave_3]
    split
    · rename_i e
      have e : x = y := by omega
      subst e
      exact ⟨x + 1, rfl, rfl, .inl ⟨rfl, .inr (.inr (.inr (.inr (.inl ⟨_, rfl⟩)))), rfl⟩⟩
    · exact ⟨x, rfl, rfl, .inl ⟨rfl, .inr (.inr (.inr (.inr (.inr ⟨_, rfl⟩)))), rfl⟩⟩
  · rw [leave_4a]; exact ⟨x, rfl, rfl, .inr ⟨rfl, rfl, by rw [hnx]; rfl⟩⟩
  · rw [leave_4b]; exact ⟨x, rfl, rfl, .inl ⟨rfl, .inr (.inl ⟨_, _, rfl⟩), rfl⟩⟩
/-! ### what every run keeps -/
structure SI (room : Nat) (ths : List PT) (ws : List Int) : Prop where
  w : ∃ x : Nat, ws = [(x : Int)] ∧ x + cntI (fun _ => semHold) 0 ths = room
  th : ∀ (n nx ci : Nat) (t : Th), ths[n]? = some ⟨nx, some (ci, t)⟩ → (ci = 0 ∧ nx % 3 = 1 ∧ EnterSh t) ∨ (ci = 2 ∧ nx % 3 = 2 ∧ t.err = 0) ∨ (ci = 1 ∧ nx % 3 = 0 ∧ LeaveSh t)
theorem SI.put {room : Nat} {ths : List PT} {ws : List Int} (h : SI room ths ws) {n : Nat} {p q : PT} (hn : ths[n]? = some p) {x' : Nat} (hx : ∀ x : Nat, ws = [(x : Int)] → x' + b2n (semHold q) = x + b2n (semHold p))
    (hq : ∀ nx ci t, q = ⟨nx, some (ci, t)⟩ → (ci = 0 ∧ nx % 3 = 1 ∧ EnterSh t) ∨ (ci = 2 ∧ nx % 3 = 2 ∧ t.err = 0) ∨ (ci = 1 ∧ nx % 3 = 0 ∧ LeaveSh t)) : SI room (ths.set n q) [(x' : Int)] := by
  obtain ⟨x, hw, hc⟩ := h.w
  refine ⟨⟨x', rfl, ?_⟩, fun n' nx' ci t hn' => ?_⟩
  · have h1 := cntI_set0 (fun _ => semHold) q hn
    have h2 := hx x hw
    omega
  · rcases get_set hn' with ⟨_, e⟩ | ⟨_, e⟩
    · exact hq nx' ci t e.symm
    · exact h.th n' nx' ci t e
theorem sema_keeps {room often work : Nat} (h4 : room ≤ 4) (hw : 0 < work) (l : List Nat) : PKeeps (rmach [(room : Int)] enterCode leaveCode often work) l (fun _ ths ws _ => SI room ths ws) where
  idle := fun i s n hi hD h hn => h
  begin_ := by
    intro i s n nx calls c hi hD h hn hc hcc
    have e := rmach_call hw hc hcc
    subst e
    obtain ⟨x, hx, _⟩ := h.w
    rw [hx]
    refine h.put hn (fun y hy => ?_) fun nx' ci t e => ?_
    · rw [hx] at hy; injection hy with hy
      have : x = y := by omega
      subst this
      congr 1
      unfold rcode
      rcases (show nx % 3 = 0 ∨ nx % 3 = 1 ∨ nx % 3 = 2 by omega) with h3 | h3 | h3 <;> simp only [h3] <;> simp [semHold, h3, rmach, vbegin]
      all_goals decide
    · injection e with e1 e; injection e with e; injection e with e2 e3
      subst e1 e2 e3
      unfold rcode
      rcases (show nx % 3 = 0 ∨ nx % 3 = 1 ∨ nx % 3 = 2 by omega) with h3 | h3 | h3 <;> simp only [h3]
      · exact .inl ⟨rfl, by omega, .inl rfl⟩
      · exact .inr (.inl ⟨rfl, by omega, rfl⟩)
      · exact .inr (.inr ⟨rfl, by omega, .inl rfl⟩)
  cont := by
    intro i s n nx ci t hi hD h hn hov
    obtain ⟨x, hx, hc⟩ := h.w
    have hs := h.th n nx ci t hn
    rw [hx] at hov ⊢
    have hxx : ∀ y : Nat, s.words = [(y : Int)] → x = y := fun y hy => by rw [hx] at hy; injection hy with hy; omega
    rcases hs with ⟨rfl, h3, hE⟩ | ⟨rfl, h3, hE⟩ | ⟨rfl, h3, hE⟩
    · obtain ⟨x', e1, e2, e3⟩ := enter_ok nx h3 hE x (by omega)
      have hov : (vstep enterCode t [(x : Int)]).1.over = false := hov
      show SI room (s.ths.set n ⟨nx, some (0, (vstep enterCode t [(x : Int)]).1)⟩) (vstep enterCode t [(x : Int)]).2
      rcases e3 with ⟨_, e4, e5⟩ | ⟨e4, _⟩
      · rw [e1]
        refine h.put hn (fun y hy => by rw [← hxx y hy]; exact e5) fun nx' ci t e => ?_
        injection e with e6 e; injection e with e; injection e with e7 e8
        subst e6 e7 e8
        exact .inl ⟨rfl, h3, e4⟩
      · rw [e4] at hov; cases hov
    · obtain ⟨e1, e2⟩ := lops_step work t [(x : Int)] hE
      show SI room (s.ths.set n ⟨nx, some (2, (vstep (lops work work) t [(x : Int)]).1)⟩) (vstep (lops work work) t [(x : Int)]).2
      rw [e1]
      refine h.put hn (fun y hy => by rw [← hxx y hy]; rfl) fun nx' ci t e => ?_
      injection e with e6 e; injection e with e; injection e with e7 e8
      subst e6 e7 e8
      exact .inr (.inl ⟨rfl, h3, e2⟩)
    · obtain ⟨x', e1, e2, e3⟩ := leave_ok nx h3 hE x (by omega)
      have hov : (vstep leaveCode t [(x : Int)]).1.over = false := hov
      show SI room (s.ths.set n ⟨nx, some (1, (vstep leaveCode t [(x : Int)]).1)⟩) (vstep leaveCode t [(x : Int)]).2
      rcases e3 with ⟨_, e4, e5⟩ | ⟨e4, _⟩
      · rw [e1]
        refine h.put hn (fun y hy => by rw [← hxx y hy]; exact e5) fun nx' ci t e => ?_
        injection e with e6 e; injection e with e; injection e with e7 e8
        subst e6 e7 e8
        exact .inr (.inr ⟨rfl, h3, e4⟩)
      · rw [e4] at hov; cases hov
  fin_ := by
    intro i s n nx ci t k d hi hD h hn hov hk ht hdc he htold
    obtain ⟨x, hx, hc⟩ := h.w
    have hs := h.th n nx ci t hn
    rw [hx] at hov ⊢
    have hxx : ∀ y : Nat, s.words = [(y : Int)] → x = y := fun y hy => by rw [hx] at hy; injection hy with hy; omega
    have hq : ∀ nx' ci t, (⟨nx, none⟩ : PT) = ⟨nx', some (ci, t)⟩ → (ci = 0 ∧ nx' % 3 = 1 ∧ EnterSh t) ∨ (ci = 2 ∧ nx' % 3 = 2 ∧ t.err = 0) ∨ (ci = 1 ∧ nx' % 3 = 0 ∧ LeaveSh t) := fun nx' ci t e => by cases e
    rcases hs with ⟨rfl, h3, hE⟩ | ⟨rfl, h3, hE⟩ | ⟨rfl, h3, hE⟩
    · obtain ⟨x', e1, e2, e3⟩ := enter_ok nx h3 hE x (by omega)
      have hov : (vstep enterCode t [(x : Int)]).1.over = true := hov
      rcases e3 with ⟨e4, _⟩ | ⟨_, e4, e5⟩
      · rw [e4] at hov; cases hov
      · subst e4
        refine ⟨?_, e2⟩
        show SI room (s.ths.set n ⟨nx, none⟩) (vstep enterCode t [(x' : Int)]).2
        rw [e1]
        exact h.put hn (fun y hy => by rw [← hxx y hy, e5]; rfl) hq
    · obtain ⟨e1, e2⟩ := lops_step work t [(x : Int)] hE
      refine ⟨?_, e2⟩
      show SI room (s.ths.set n ⟨nx, none⟩) (vstep (lops work work) t [(x : Int)]).2
      rw [e1]
      exact h.put hn (fun y hy => by rw [← hxx y hy]; simp [semHold, h3]) hq
    · obtain ⟨x', e1, e2, e3⟩ := leave_ok nx h3 hE x (by omega)
      have hov : (vstep leaveCode t [(x : Int)]).1.over = true := hov
      rcases e3 with ⟨e4, _⟩ | ⟨_, e4, e5⟩
      · rw [e4] at hov; cases hov
      · subst e4
        refine ⟨?_, e2⟩
        show SI room (s.ths.set n ⟨nx, none⟩) (vstep leaveCode t [(x' : Int)]).2
        rw [e1]
        exact h.put hn (fun y hy => by rw [← hxx y hy, e5]; rfl) hq
/-- SemaMost, plain -/
theorem sema_play {room often work : Nat} (h4 : room ≤ 4) (hw : 0 < work) (l : List Nat) : SI room (play (rmach [(room : Int)] enterCode leaveCode often work) l).ths (play (rmach [(room : Int)] enterCode leaveCode often work) l).words ∧ NoErr (play (rmach [(room : Int)] enterCode leaveCode often work) l).evs := by
  refine (sema_keeps (often := often) h4 hw l).play ⟨⟨room, rfl, rfl⟩, fun n nx ci t hn => ?_⟩
  have h : (List.replicate 4 (⟨0, none⟩ : PT))[n]? = some ⟨nx, some (ci, t)⟩ := hn
  rw [List.getElem?_replicate] at h
  split at h <;> cases h
theorem sema_most {room often work : Nat} (h4 : room ≤ 4) (hw : 0 < work) (l : List Nat) (T : Nat) (hT : T ≤ l.length) :
    ((doings (play (rmach [(room : Int)] enterCode leaveCode often work) l).evs).filter (isin (doings (play (rmach [(room : Int)] enterCode leaveCode often work) l).evs) T)).length ≤ room := by
  obtain ⟨⟨⟨x, _, hc⟩, hth⟩, _⟩ := sema_play (often := often) h4 hw (l.take T)
  refine Nat.le_trans (inside_count hT (fun d h => h) (fun _ => semHold) fun d p hd hn h => ?_) (by omega)
  have hc := (isin_iff.1 hd).1
  obtain ⟨nx, cur⟩ := p
  cases cur with
  | none =>
    have : nx % 3 ≠ 0 := by
      rcases h with ⟨_, h⟩ | h
      · have : nx = d.c + 1 := h; omega
      · have : nx = d.c + 2 := h; omega
    simp [semHold, this]
  | some v =>
    obtain ⟨ci, t⟩ := v
    rcases h with ⟨h, _⟩ | h
    · cases h
    · have h : nx = d.c + 2 := h
      rcases hth d.t nx ci t hn with ⟨_, h3, _⟩ | ⟨rfl, _, _⟩ | ⟨_, h3, _⟩
      · omega
      · rfl
      · omega
theorem rmach_len {ws : List Int} {k1 k2 : List Op5} {often work : Nat} : ∀ calls ∈ (rmach ws k1 k2 often work).threads, calls.length ≤ 3 * often := by
  intro calls h
  unfold rmach at h
  simp only at h
  obtain ⟨u, hu, rfl⟩ := List.mem_map.1 h
  unfold rths
  rw [if_pos (List.mem_range.1 hu)]
  exact rcalls_len work often
end Go.Proofs.YtbcjgnigdddlkaaDoor
