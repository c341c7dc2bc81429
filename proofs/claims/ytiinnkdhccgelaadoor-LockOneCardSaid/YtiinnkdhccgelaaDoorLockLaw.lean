/-
  The bakery under whatever schedule: plain laws.
-/
import Derived.Test.YtiinnkdhccgelaaDoorLockSh
import Derived.Test.YtiinnkdhccgelaaDoorLDef
import Derived.Test.YtiinnkdhccgelaaDoorInside
namespace Go.Proofs.YtiinnkdhccgelaaDoor
open Go.RowKit
set_option linter.unusedVariables false

/-- the call nx of thread t: it comes in, stays, and leaves -/
def lcallAt (t nx : Nat) : VCall := if nx % 3 = 0 then ⟨0, [(t : Int)]⟩ else if nx % 3 = 1 then ⟨2, []⟩ else ⟨1, [(t : Int)]⟩
/-- a machine of threads that do so; Q: what holds of who stays -/
structure LM (n : Nat) (m : Mach) (Q : Th → Prop) : Prop where
  h1 : 1 ≤ n
  h4 : n ≤ 4
  len : m.threads.length = n
  c0 : m.codes.getD 0 [] = lenterCode n
  c1 : m.codes.getD 1 [] = lleaveCode n
  call : ∀ (t nx : Nat) (calls : List VCall) (c : VCall), m.threads[t]? = some calls → calls[nx]? = some c → c = lcallAt t nx
  q0 : Q (vbegin (m.codes.getD 2 []).length [])
  sec : ∀ (T : Th) (ws : List Int), Q T → 2 * n ≤ ws.length → (vstep (m.codes.getD 2 []) T ws).1.err = 0 ∧ (vstep (m.codes.getD 2 []) T ws).2.length = ws.length ∧ (∀ i : Nat, i < 2 * n → vget (vstep (m.codes.getD 2 []) T ws).2 (i : Int) = vget ws (i : Int)) ∧ ((vstep (m.codes.getD 2 []) T ws).1.over = false → Q (vstep (m.codes.getD 2 []) T ws).1)
  wl : 2 * n ≤ m.words.length
  w0 : ∀ i : Nat, i < 2 * n → vget m.words (i : Int) = 0
def TSh (n : Nat) (Q : Th → Prop) (t : Nat) (p : PT) (a : LA) : Prop :=
  match p.cur with
  | none => (p.next % 3 = 0 ∧ a = .idle) ∨ (p.next % 3 ≠ 0 ∧ ∃ m, a = .wait n m)
  | some (ci, T) => (p.next % 3 = 1 ∧ ci = 0 ∧ ESh n t T a) ∨ (p.next % 3 = 2 ∧ ci = 2 ∧ Q T ∧ ∃ m, a = .wait n m) ∨ (p.next % 3 = 0 ∧ ci = 1 ∧ T = ⟨(t : Int) :: List.replicate 23 0, 0, [], 0, false⟩ ∧ ∃ m, a = .wait n m)
structure LockI (n : Nat) (Q : Th → Prop) (i : Nat) (ths : List PT) (ws : List Int) (A : Nat → LA) : Prop where
  g : GInv n i A
  w : WM n A ws
  len : ths.length = n
  sh : ∀ (t : Nat) (p : PT), ths[t]? = some p → TSh n Q t p (A t)
theorem lvbegin {len : Nat} (h : 0 < len) (args : List Int) : (vbegin len args).over = false := by
  unfold vbegin
  simp
  omega
theorem WM.keep {n : Nat} {A : Nat → LA} {ws ws' : List Int} (h : WM n A ws) (hl : ws'.length = ws.length) (hk : ∀ i : Nat, i < 2 * n → vget ws' (i : Int) = vget ws (i : Int)) : WM n A ws' :=
  ⟨by rw [hl]; exact h.len, fun t ht => by rw [hk t (by omega)]; exact h.chs t ht, fun t ht => by rw [hk (n + t) (by omega)]; exact h.num t ht⟩
theorem lock_keeps {n : Nat} {m : Mach} {Q : Th → Prop} (M : LM n m Q) {l : List Nat} (hl : l.length ≤ 6000) : PKeeps m l (fun i ths ws _ => ∃ A, LockI n Q i ths ws A) where
  idle := fun i s t hi hD ⟨A, h⟩ hn => ⟨A, h.g.mono, h.w, h.len, h.sh⟩
  begin_ := by
    rintro i s t nx calls c hi hD ⟨A, h⟩ hn hc hcc
    have hcall := M.call t nx calls c hc hcc
    refine ⟨A, h.g, h.w, by rw [List.length_set]; exact h.len, fun u p hp => ?_⟩
    rcases get_set hp with ⟨rfl, rfl⟩ | ⟨_, hp⟩
    · have h0 := h.sh u _ hn
      unfold TSh at h0 ⊢
      simp only at h0 ⊢
      unfold lcallAt at hcall
      by_cases e0 : nx % 3 = 0
      · rw [if_pos e0] at hcall
        subst hcall
        rcases h0 with ⟨_, h0⟩ | ⟨h0, _⟩
        · refine .inl ⟨by omega, rfl, ?_⟩
          rw [h0]
          show ESh n u (vbegin (m.codes.getD 0 []).length [(u : Int)]) .idle
          rw [M.c0, lenter_len M.h1 M.h4]
          exact .e0
        · exact absurd e0 h0
      · rw [if_neg e0] at hcall
        rcases h0 with ⟨h0, _⟩ | ⟨_, h0⟩
        · exact absurd h0 e0
        · by_cases e1 : nx % 3 = 1
          · rw [if_pos e1] at hcall
            subst hcall
            exact .inr (.inl ⟨by omega, rfl, M.q0, h0⟩)
          · rw [if_neg e1] at hcall
            subst hcall
            refine .inr (.inr ⟨by omega, rfl, ?_, h0⟩)
            show vbegin (m.codes.getD 1 []).length [(u : Int)] = _
            rw [M.c1]
            rfl
    · exact h.sh u p hp
  cont := by
    rintro i s t nx ci T hi hD ⟨A, h⟩ hn hov
    have hi6 : i ≤ 6000 := by have := (List.getElem?_eq_some_iff.1 hi).1; omega
    have htn : t < n := by have := (List.getElem?_eq_some_iff.1 hn).1; have := h.len; omega
    have h0 := h.sh t _ hn
    unfold TSh at h0
    simp only at h0
    rcases h0 with ⟨a1, rfl, a3⟩ | ⟨a1, rfl, a3, a4⟩ | ⟨a1, rfl, a3, a4⟩
    · rw [M.c0] at hov ⊢
      obtain ⟨a', E⟩ := enter_step M.h1 M.h4 htn hi6 h.g h.w a3
      rcases E.sh with ⟨_, E2⟩ | ⟨E1, _⟩
      · refine ⟨upd A t a', h.g.step htn E.tr, E.wm, by rw [List.length_set]; exact h.len, fun u p hp => ?_⟩
        rcases get_set hp with ⟨rfl, rfl⟩ | ⟨e, hp⟩
        · rw [upd_same]; exact .inl ⟨a1, rfl, E2⟩
        · rw [upd_ne _ _ _ _ e]; exact h.sh u p hp
      · rw [E1] at hov; cases hov
    · obtain ⟨b1, b2, b3, b4⟩ := M.sec T s.words a3 h.w.len
      refine ⟨A, h.g.mono, h.w.keep b2 b3, by rw [List.length_set]; exact h.len, fun u p hp => ?_⟩
      rcases get_set hp with ⟨rfl, rfl⟩ | ⟨e, hp⟩
      · exact .inr (.inl ⟨a1, rfl, b4 hov, a4⟩)
      · exact h.sh u p hp
    · subst a3
      obtain ⟨mm, ha⟩ := a4
      rw [M.c1, (leave_step M.h1 M.h4 htn h.w ha).1] at hov
      cases hov
  fin_ := by
    rintro i s t nx ci T k0 d0 hi hD ⟨A, h⟩ hn hov hk0 ht0 hdc0 he0 htold
    have hi6 : i ≤ 6000 := by have := (List.getElem?_eq_some_iff.1 hi).1; omega
    have htn : t < n := by have := (List.getElem?_eq_some_iff.1 hn).1; have := h.len; omega
    have h0 := h.sh t _ hn
    unfold TSh at h0
    simp only at h0
    rcases h0 with ⟨a1, rfl, a3⟩ | ⟨a1, rfl, a3, a4⟩ | ⟨a1, rfl, a3, a4⟩
    · rw [M.c0] at hov ⊢
      obtain ⟨a', E⟩ := enter_step M.h1 M.h4 htn hi6 h.g h.w a3
      rcases E.sh with ⟨E1, _⟩ | ⟨_, E2⟩
      · rw [E1] at hov; cases hov
      · refine ⟨⟨upd A t a', h.g.step htn E.tr, E.wm, by rw [List.length_set]; exact h.len, fun u p hp => ?_⟩, E.err⟩
        rcases get_set hp with ⟨rfl, rfl⟩ | ⟨e, hp⟩
        · rw [upd_same]; exact .inr ⟨by show nx % 3 ≠ 0; omega, E2⟩
        · rw [upd_ne _ _ _ _ e]; exact h.sh u p hp
    · obtain ⟨b1, b2, b3, b4⟩ := M.sec T s.words a3 h.w.len
      refine ⟨⟨A, h.g.mono, h.w.keep b2 b3, by rw [List.length_set]; exact h.len, fun u p hp => ?_⟩, b1⟩
      rcases get_set hp with ⟨rfl, rfl⟩ | ⟨e, hp⟩
      · exact .inr ⟨by show nx % 3 ≠ 0; omega, a4⟩
      · exact h.sh u p hp
    · subst a3
      obtain ⟨mm, ha⟩ := a4
      obtain ⟨e1, e2⟩ := leave_step M.h1 M.h4 htn h.w ha
      rw [M.c1, e1]
      have htr : LTr n A t (A t) .idle := by rw [ha]; exact .t10 mm
      refine ⟨⟨upd A t .idle, h.g.step htn htr, e2, by rw [List.length_set]; exact h.len, fun u p hp => ?_⟩, rfl⟩
      rcases get_set hp with ⟨rfl, rfl⟩ | ⟨e, hp⟩
      · rw [upd_same]; exact .inl ⟨a1, rfl⟩
      · rw [upd_ne _ _ _ _ e]; exact h.sh u p hp
theorem lock_play {n : Nat} {m : Mach} {Q : Th → Prop} (M : LM n m Q) {l : List Nat} (hl : l.length ≤ 6000) :
    (∃ A, LockI n Q l.length (play m l).ths (play m l).words A) ∧ NoErr (play m l).evs := by
  refine (lock_keeps M hl).play ⟨fun _ => .idle, GInv.init n, ⟨M.wl, fun t ht => M.w0 t (by omega), fun t ht => M.w0 (n + t) (by omega)⟩, by unfold pinit; rw [List.length_replicate]; exact M.len, fun t p hp => ?_⟩
  unfold pinit at hp
  simp only [List.getElem?_replicate] at hp
  split at hp
  · injection hp with hp; subst hp; exact .inl ⟨rfl, rfl⟩
  · cases hp
/-- no two are inside at a time -/
theorem lock_apart {n : Nat} {m : Mach} {Q : Th → Prop} (M : LM n m Q) {l : List Nat} (hl : l.length ≤ 6000) {T : Nat} (hT : T ≤ l.length) {k k' : Nat} {d d' : Dg} (hk : (doings (play m l).evs)[k]? = some d) (hk' : (doings (play m l).evs)[k']? = some d') (hne : d.t ≠ d'.t)
    (h : isin (doings (play m l).evs) T d = true) (h' : isin (doings (play m l).evs) T d' = true) : False := by
  obtain ⟨⟨A, L⟩, _⟩ := lock_play M (l := l.take T) (by rw [List.length_take]; omega)
  have key : ∀ {k : Nat} {d : Dg}, (doings (play m l).evs)[k]? = some d → isin (doings (play m l).evs) T d = true → d.t < n ∧ ∃ mm, A d.t = .wait n mm := by
    intro k d hk h
    obtain ⟨p, hp, h1⟩ := inside_thread hT hk h
    have hc := (isin_iff.1 h).1
    have hs := L.sh _ p hp
    have hlt : d.t < n := by have := (List.getElem?_eq_some_iff.1 hp).1; have := L.len; omega
    refine ⟨hlt, ?_⟩
    obtain ⟨nx, cur⟩ := p
    unfold TSh at hs
    simp only at hs h1
    cases cur with
    | none =>
      rcases hs with ⟨h2, _⟩ | ⟨_, h2⟩
      · omega
      · exact h2
    | some x =>
      obtain ⟨ci, T0⟩ := x
      simp only at hs
      rcases h1 with ⟨h1, _⟩ | h1
      · cases h1
      · rcases hs with ⟨h2, _⟩ | ⟨_, _, _, h2⟩ | ⟨h2, _⟩
        · omega
        · exact h2
        · omega
  obtain ⟨a1, m1, a2⟩ := key hk h
  obtain ⟨b1, m2, b2⟩ := key hk' h'
  exact L.g.one a1 b1 hne a2 b2
/-! ### the machine of lockMachine -/
theorem lround_w {work t : Nat} (hw : 0 < work) : lround work t = [⟨0, [(t : Int)]⟩, ⟨2, []⟩, ⟨1, [(t : Int)]⟩] := by unfold lround; rw [if_pos hw]
theorem lcalls_lenw {work t : Nat} (hw : 0 < work) : ∀ i, (lcalls work t i).length = 3 * i
  | 0 => rfl
  | i + 1 => by rw [lcalls, List.length_append, lcalls_lenw hw i, lround_w hw]; simp; omega
theorem lcalls_at {work t : Nat} (hw : 0 < work) : ∀ (i nx : Nat) (c : VCall), (lcalls work t i)[nx]? = some c → c = lcallAt t nx
  | 0, nx, c, h => by simp [lcalls] at h
  | i + 1, nx, c, h => by
    rw [lcalls, List.getElem?_append, lcalls_lenw hw] at h
    split at h
    · exact lcalls_at hw i nx c h
    · rename_i hl
      rw [lround_w hw] at h
      obtain ⟨r, hr⟩ : ∃ r, nx = 3 * i + r := ⟨nx - 3 * i, by omega⟩
      subst hr
      rw [Nat.add_sub_cancel_left] at h
      have e : (3 * i + r) % 3 = r % 3 := by omega
      unfold lcallAt
      rw [e]
      match r, h with
      | 0, h => simp at h; rw [← h]; rfl
      | 1, h => simp at h; rw [← h]; rfl
      | 2, h => simp at h; rw [← h]; rfl
      | r + 3, h => simp at h
theorem lops_k (work : Nat) : ∀ o ∈ lops work work, o.k = 1 := by
  intro o ho
  have e : lops work work = (List.range work).map (fun (i : Nat) => (⟨1, 0, (i : Int), 0, 0⟩ : Op5)) := by simp [lops]
  rw [e, List.mem_map] at ho
  obtain ⟨i, _, rfl⟩ := ho
  rfl
theorem lops_step (work : Nat) (t : Th) (ws : List Int) (h : t.err = 0) : (vstep (lops work work) t ws).2 = ws ∧ (vstep (lops work work) t ws).1.err = 0 := by
  unfold vstep
  split
  · exact ⟨rfl, h⟩
  · split
    · exact ⟨rfl, h⟩
    · rename_i o ho
      have hk := lops_k work o (List.mem_of_getElem? ho)
      simp only
      unfold vdo
      simp only
      rw [if_pos hk]
      exact ⟨rfl, h⟩
theorem lmach_lm {n work : Nat} {f : Nat → Nat} (h1 : 1 ≤ n) (h4 : n ≤ 4) (hw : 0 < work) : LM n (lmach n f work) (fun T => T.err = 0) where
  h1 := h1
  h4 := h4
  len := by unfold lmach; simp
  c0 := rfl
  c1 := rfl
  call := fun t nx calls c h hc => by
    unfold lmach at h
    simp only at h
    rw [List.getElem?_map] at h
    obtain ⟨u, hu, rfl⟩ := Option.map_eq_some_iff.1 h
    obtain ⟨hu1, hu2⟩ := List.getElem?_eq_some_iff.1 hu
    have e : u = t := by simpa using hu2.symm
    subst e
    have hun : u < n := by simpa using hu1
    unfold lths at hc
    rw [if_pos hun] at hc
    exact lcalls_at hw _ nx c hc
  q0 := rfl
  sec := fun T ws hQ hl => by
    obtain ⟨a, b⟩ := lops_step work T ws hQ
    show (vstep (lops work work) T ws).1.err = 0 ∧ (vstep (lops work work) T ws).2.length = ws.length ∧ _ ∧ ((vstep (lops work work) T ws).1.over = false → (vstep (lops work work) T ws).1.err = 0)
    refine ⟨b, by rw [a], fun i _ => ?_, fun _ => b⟩
    show vget (vstep (lops work work) T ws).2 (i : Int) = _
    rw [a]
  wl := by unfold lmach; simp
  w0 := fun i hi => by
    unfold lmach vget
    simp only
    rw [List.getD_eq_getElem?_getD, List.getElem?_replicate]
    split <;> rfl
end Go.Proofs.YtiinnkdhccgelaaDoor
