/-
  The ring where all Puts are ahead of all Takes: plain laws that the kernel goes through.
-/
import Derived.Test.YtiinnkdhccgelaaDoorRAll
namespace Go.Proofs.YtiinnkdhccgelaaDoor
open Go.RowKit
set_option linter.unusedVariables false

/-- a thread that has no call left -/
theorem idle_run {m : Mach} {τ nx : Nat} {calls : List VCall} (hc : m.threads[τ]? = some calls) (hk : calls.length ≤ nx) : ∀ (n i : Nat) (s : PS), s.ths[τ]? = some ⟨nx, none⟩ → prun m i (List.replicate n τ) s = s
  | 0, _, _, _ => rfl
  | n + 1, i, s, hs => by
    rw [List.replicate_succ, prun]
    have e : pstep m i τ s = s := by
      obtain ⟨ths, wsx, evs⟩ := s
      unfold pstep
      simp only [hs, hc, pbeg, List.getElem?_eq_none hk, pact]
    rw [e]
    exact idle_run hc hk n (i + 1) s hs
/-- what was put, and what was taken, as told by some calls -/
def rtNext (a : Int × Int) (d : Dg) : Int × Int :=
  match d.e, d.told with
  | some _, [v] => if d.t = 0 then (a.1 + v, a.2) else if v = -1 then a else (a.1, a.2 + 1)
  | _, _ => a
def rtAt (ds : List Dg) (k : Nat) : Int × Int := (ds.take k).foldl rtNext (0, 0)
theorem rtAt_next {ds : List Dg} {k : Nat} {d : Dg} (h : ds[k]? = some d) : rtAt ds (k + 1) = rtNext (rtAt ds k) d := by
  unfold rtAt
  rw [List.take_add_one, h, List.foldl_append]; rfl
def rtOk1 (N : Int) (a : Int × Int) (d : Dg) : Bool :=
  match d.e, d.told with
  | none, _ => decide (d.t < 2)
  | some _, [v] => decide (d.t < 2) && decide (0 ≤ a.1) && decide (a.1 ≤ 20) && decide (0 ≤ a.2) && decide (a.2 ≤ 20) && (if d.t = 0 then (decide (v = 1) == decide (a.1 < N)) && (decide (v = 0) || decide (v = 1)) else (decide (a.1 ≤ a.2) || decide (v = a.2 + 1)) && (decide (a.2 < a.1) || decide (v = -1) || decide (v = a.2 + 1)) && decide (-1 ≤ v) && decide (v ≤ 20))
  | _, _ => false
def rtOk (N k : Nat) (ds : List Dg) : Bool :=
  ((List.range ds.length).all fun i => match ds[i]? with | some d => rtOk1 N (rtAt ds i) d | none => false) && decide ((min N k : Nat) ≤ (rtAt ds ds.length).1) && decide ((rtAt ds ds.length).1 ≤ (rtAt ds ds.length).2)
def rtP (N k : Nat) : PS := prun (rgM N) 0 (List.replicate (80 * min k 4) 0) (pinit (rgM N))
def rtS (N k : Nat) (s : PS) : PS := prun (rgM N) (80 * k) (List.replicate 300 1) s
def noErrB_ (s : PS) : Bool := s.evs.all fun e => e.err == 0
def thDone (s : PS) (τ : Nat) : Bool := match s.ths[τ]? with | some p => p.cur.isNone && p.next == 20 | none => false
def rtC (N k : Nat) (s : PS) : Bool := noErrB_ s && thDone s 1 && rtOk N k (doings s.evs) && decide ((doings s.evs).length ≤ 40)
def rtA (N : Nat) : Bool := (fun s : PS => thDone s 0 && (List.range 7).all fun i => rtC N (i + 4) (rtS N (i + 4) s)) (rtP N 4) && (List.range 3).all fun i => rtC N (i + 1) (rtS N (i + 1) (rtP N (i + 1)))
theorem rgM_th (N : Nat) : (rgM N).threads[0]? = some (rgPuts 20) ∧ (rgM N).threads[1]? = some (rgTakes 20) := ⟨rfl, rfl⟩
theorem thDone_at {s : PS} {τ : Nat} (h : thDone s τ = true) : s.ths[τ]? = some ⟨20, none⟩ := by
  unfold thDone at h
  split at h
  · rename_i p hp
    rw [Bool.and_eq_true, Option.isNone_iff_eq_none, beq_iff_eq] at h
    obtain ⟨nx, cur⟩ := p
    obtain ⟨h1, h2⟩ := h
    simp only at h1 h2
    subst h1 h2
    exact hp
  · cases h
set_option maxRecDepth 1000000 in
theorem rtk_1 : rtA 1 = true := by decide +kernel
set_option maxRecDepth 1000000 in
theorem rtk_2 : rtA 2 = true := by decide +kernel
set_option maxRecDepth 1000000 in
theorem rtk_3 : rtA 3 = true := by decide +kernel
set_option maxRecDepth 1000000 in
theorem rtk_4 : rtA 4 = true := by decide +kernel
set_option maxRecDepth 1000000 in
theorem rtk_5 : rtA 5 = true := by decide +kernel
set_option maxRecDepth 1000000 in
theorem rtk_6 : rtA 6 = true := by decide +kernel
set_option maxRecDepth 1000000 in
theorem rtk_7 : rtA 7 = true := by decide +kernel
set_option maxRecDepth 1000000 in
theorem rtk_8 : rtA 8 = true := by decide +kernel
theorem rt_N {N : Nat} (h1 : 1 ≤ N) (h8 : N ≤ 8) : rtA N = true := by
  rcases (show N = 1 ∨ N = 2 ∨ N = 3 ∨ N = 4 ∨ N = 5 ∨ N = 6 ∨ N = 7 ∨ N = 8 by omega) with rfl | rfl | rfl | rfl | rfl | rfl | rfl | rfl
  · exact rtk_1
  · exact rtk_2
  · exact rtk_3
  · exact rtk_4
  · exact rtk_5
  · exact rtk_6
  · exact rtk_7
  · exact rtk_8
theorem rt_all {N k : Nat} (h1 : 1 ≤ N) (h8 : N ≤ 8) (hk : 1 ≤ k) (hk2 : k ≤ 10) : rtC N k (rtS N k (rtP N k)) = true ∧ thDone (rtP N 4) 0 = true := by
  have h := rt_N h1 h8
  unfold rtA at h
  simp only [Bool.and_eq_true] at h
  obtain ⟨⟨a1, a2⟩, a3⟩ := h
  refine ⟨?_, a1⟩
  by_cases h4 : 4 ≤ k
  · have := List.all_eq_true.1 a2 (k - 4) (List.mem_range.2 (by omega))
    rw [show k - 4 + 4 = k by omega] at this
    have e : rtP N k = rtP N 4 := by unfold rtP; rw [show min k 4 = min 4 4 by omega]
    rw [e]; exact this
  · have := List.all_eq_true.1 a3 (k - 1) (List.mem_range.2 (by omega))
    rw [show k - 1 + 1 = k by omega] at this
    exact this
end Go.Proofs.YtiinnkdhccgelaaDoor
