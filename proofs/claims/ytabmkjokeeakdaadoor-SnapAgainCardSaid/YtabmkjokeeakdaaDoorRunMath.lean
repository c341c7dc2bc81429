/-
  Threads beside each other, as a plain function; plain laws.
-/
import Derived.Test.YtabmkjokeeakdaaDoorRunMay
namespace Go.Proofs.YtabmkjokeeakdaaDoor
open Go.RowKit
set_option linter.unusedVariables false

/-- a thread of a machine: how many calls it has begun, and the one it is in -/
structure PT where
  next : Nat
  cur : Option (Nat × Th)
/-- what is told of a run -/
structure Ev where
  step : Nat
  thread : Nat
  call : Nat
  fin : Bool
  err : Nat
  told : List Int
structure PS where
  ths : List PT
  words : List Int
  evs : List Ev
/-- a thread that is in no call begins its next one, if there is one -/
def pbeg (m : Mach) (step n : Nat) (calls : List VCall) (p : PT) : PT × List Ev :=
  match p.cur with
  | some _ => (p, [])
  | none =>
    match calls[p.next]? with
    | none => (p, [])
    | some c => (⟨p.next + 1, some (c.code, vbegin (m.codes.getD c.code []).length c.args)⟩, [⟨step, n, p.next, false, 0, []⟩])
/-- one instruction of the call that it is in -/
def pact (m : Mach) (step n : Nat) (q : PT × List Ev) (s : PS) : PS :=
  match q.1.cur with
  | none => s
  | some (ci, t) =>
    if (vstep (m.codes.getD ci []) t s.words).1.over then
      { ths := s.ths.set n ⟨q.1.next, none⟩, words := (vstep (m.codes.getD ci []) t s.words).2, evs := s.evs ++ (q.2 ++ [⟨step, n, q.1.next - 1, true, (vstep (m.codes.getD ci []) t s.words).1.err, (vstep (m.codes.getD ci []) t s.words).1.told⟩]) }
    else
      { ths := s.ths.set n ⟨q.1.next, some (ci, (vstep (m.codes.getD ci []) t s.words).1)⟩, words := (vstep (m.codes.getD ci []) t s.words).2, evs := s.evs ++ q.2 }
def pstep (m : Mach) (step n : Nat) (s : PS) : PS :=
  match s.ths[n]?, m.threads[n]? with
  | some p, some calls => pact m step n (pbeg m step n calls p) s
  | _, _ => s
def prun (m : Mach) : Nat → List Nat → PS → PS
  | _, [], s => s
  | i, n :: l, s => prun m (i + 1) l (pstep m i n s)
def pinit (m : Mach) : PS := ⟨List.replicate m.threads.length ⟨0, none⟩, m.words, []⟩
def play (m : Mach) (l : List Nat) : PS := prun m 0 l (pinit m)
theorem prun_append (m : Mach) : ∀ (a b : List Nat) (i : Nat) (s : PS), prun m i (a ++ b) s = prun m (i + a.length) b (prun m i a s)
  | [], b, i, s => rfl
  | n :: a, b, i, s => by
    rw [List.cons_append, prun, prun, prun_append m a b (i + 1), List.length_cons, show i + 1 + a.length = i + (a.length + 1) by omega]
theorem prun_snoc (m : Mach) (a : List Nat) (n i : Nat) (s : PS) : prun m i (a ++ [n]) s = pstep m (i + a.length) n (prun m i a s) := by
  rw [prun_append]; rfl
theorem pbeg_step (m : Mach) (step n : Nat) (calls : List VCall) (p : PT) : ∀ e ∈ (pbeg m step n calls p).2, e.step = step ∧ e.thread = n := by
  unfold pbeg
  split
  · simp
  · split <;> simp
theorem pact_evs (m : Mach) (step n : Nat) (q : PT × List Ev) (s : PS) (hq : ∀ e ∈ q.2, e.step = step ∧ e.thread = n) : ∃ u, (pact m step n q s).evs = s.evs ++ u ∧ ∀ e ∈ u, e.step = step ∧ e.thread = n := by
  unfold pact
  split
  · exact ⟨[], by simp, by simp⟩
  · split
    · refine ⟨_, rfl, fun e he => ?_⟩
      rcases List.mem_append.1 he with h | h
      · exact hq e h
      · rw [List.mem_singleton.1 h]; exact ⟨rfl, rfl⟩
    · exact ⟨_, rfl, hq⟩
theorem pstep_evs (m : Mach) (step n : Nat) (s : PS) : ∃ u, (pstep m step n s).evs = s.evs ++ u ∧ ∀ e ∈ u, e.step = step ∧ e.thread = n := by
  unfold pstep
  split
  · exact pact_evs m step n _ s (pbeg_step m step n _ _)
  · exact ⟨[], by simp, by simp⟩
/-- what is told later is of later steps -/
theorem prun_evs (m : Mach) : ∀ (l : List Nat) (i : Nat) (s : PS), ∃ u, (prun m i l s).evs = s.evs ++ u ∧ ∀ e ∈ u, i ≤ e.step ∧ e.step < i + l.length
  | [], i, s => ⟨[], by simp [prun], by simp⟩
  | n :: l, i, s => by
    obtain ⟨u, hu, h1⟩ := pstep_evs m i n s
    obtain ⟨v, hv, h2⟩ := prun_evs m l (i + 1) (pstep m i n s)
    refine ⟨u ++ v, by rw [prun, hv, hu, List.append_assoc], fun e he => ?_⟩
    rw [List.length_cons]
    rcases List.mem_append.1 he with h | h
    · have := h1 e h; omega
    · have := h2 e h; omega
/-- RunParts -/
theorem play_parts (m : Mach) (l : List Nat) (n : Nat) (hn : n ≤ l.length) : ∃ u, (play m l).evs = (play m (l.take n)).evs ++ u ∧ ∀ e ∈ u, n ≤ e.step := by
  unfold play
  obtain ⟨u, hu, h⟩ := prun_evs m (l.drop n) (0 + (l.take n).length) (prun m 0 (l.take n) (pinit m))
  rw [← prun_append, List.take_append_drop] at hu
  refine ⟨u, hu, fun e he => ?_⟩
  have := (h e he).1
  rw [List.length_take] at this; omega
theorem pstep_len (m : Mach) (step n : Nat) (s : PS) : (pstep m step n s).ths.length = s.ths.length := by
  unfold pstep pact
  repeat' split
  all_goals first | rfl | simp
end Go.Proofs.YtabmkjokeeakdaaDoor
