/-
  Package queue under whatever schedule: plain laws.
-/
import Derived.Test.YtiinnkdhccgelaaDoorQLog
import Derived.Test.YtiinnkdhccgelaaDoorODef
namespace Go.Proofs.YtiinnkdhccgelaaDoor
open Go.RowKit
set_option linter.unusedVariables false

/-! ### the calls of a thread are one behind the other -/
def SeqDs (ds : List Dg) : Prop := ∀ (j k : Nat) (d d' : Dg), ds[j]? = some d → ds[k]? = some d' → d.t = d'.t → d.c < d'.c → j < k ∧ ∃ e, d.e = some e ∧ e < d'.b
theorem PKeeps.withSeq {m : Mach} {l : List Nat} {I : Nat → List PT → List Int → List Dg → Prop} (K : PKeeps m l I) : PKeeps m l (fun i ths ws ds => I i ths ws ds ∧ SeqDs ds) where
  idle := fun i s n hi hD h hn => ⟨K.idle i s n hi hD h.1 hn, h.2⟩
  begin_ := by
    intro i s n nx calls c hi hD h hn hc hcc
    refine ⟨K.begin_ i s n nx calls c hi hD h.1 hn hc hcc, fun j k d d' hj hk ht hlt => ?_⟩
    rcases get_snoc hj with hj | ⟨_, rfl⟩
    · rcases get_snoc hk with hk | ⟨e1, rfl⟩
      · exact h.2 j k d d' hj hk ht hlt
      · have hl := (List.getElem?_eq_some_iff.1 hj).1
        refine ⟨by omega, ?_⟩
        cases he : d.e with
        | none => exact absurd ht (hD.rest hn hj he)
        | some e => exact ⟨e, rfl, ((hD.time j d hj).2 e he).2⟩
    · rcases get_snoc hk with hk | ⟨_, rfl⟩
      · obtain ⟨p, hp, h1, _⟩ := hD.lt k d' hk
        have ht : n = d'.t := ht
        rw [← ht, hn] at hp
        injection hp with hp; subst hp
        simp only at h1 hlt; omega
      · exact absurd hlt (Nat.lt_irrefl _)
  cont := fun i s n nx ci t hi hD h hn hov => ⟨K.cont i s n nx ci t hi hD h.1 hn hov, h.2⟩
  fin_ := by
    intro i s n nx ci t k0 d0 hi hD h hn hov hk0 ht0 hdc0 he0 htold
    obtain ⟨h1, h2⟩ := K.fin_ i s n nx ci t k0 d0 hi hD h.1 hn hov hk0 ht0 hdc0 he0 htold
    refine ⟨⟨h1, fun j k d d' hj hk ht hlt => ?_⟩, h2⟩
    have key : ∀ {j : Nat} {d : Dg}, ((doings s.evs).set k0 { d0 with e := some i, told := (vstep (m.codes.getD ci []) t s.words).1.told })[j]? = some d → ∃ d1, (doings s.evs)[j]? = some d1 ∧ d1.b = d.b ∧ d1.t = d.t ∧ d1.c = d.c ∧ (d1.e = none ∨ d1.e = d.e) := by
      intro j d hj
      rcases get_set hj with ⟨rfl, rfl⟩ | ⟨_, hj⟩
      · exact ⟨d0, hk0, rfl, rfl, rfl, .inl he0⟩
      · exact ⟨d, hj, rfl, rfl, rfl, .inr rfl⟩
    obtain ⟨d1, a1, a2, a3, a4, a5⟩ := key hj
    obtain ⟨d2, b1, b2, b3, b4, b5⟩ := key hk
    obtain ⟨c1, e, c2, c3⟩ := h.2 j k d1 d2 a1 b1 (by rw [a3, b3, ht]) (by rw [a4, b4]; exact hlt)
    refine ⟨c1, e, ?_, by rw [← b2]; exact c3⟩
    rcases a5 with a5 | a5
    · rw [a5] at c2; cases c2
    · rw [← a5]; exact c2
/-- what every run of an object comes to -/
theorem log_play2 {q : Bool} {N : Nat} {m : Mach} {P : List Int → VCall → Ph → Th → Prop} {G : List PT → List Int → List Int → Prop} (M : ObjM q N m P G) (hG : G (pinit m).ths m.words []) (l : List Nat) :
    (∃ H s, G (play m l).ths (play m l).words s ∧ LI q N m (P (play m l).words) l.length (play m l).ths (doings (play m l).evs) H s) ∧ SeqDs (doings (play m l).evs) ∧ NoErr (play m l).evs := by
  have h := (log_keeps M l).withSeq.play ⟨⟨[], [], hG, rfl, by simp, fun x hx => by simp at hx, fun k d h => by simp at h, fun k d e h => by simp at h, by simp, fun n nx ci t h => ?_⟩, fun j k d d' h => by simp at h⟩
  · exact ⟨h.1.1, h.1.2, h.2⟩
  · unfold pinit at h
    simp only [List.getElem?_replicate] at h
    split at h
    · injection h with h; injection h with _ h; cases h
    · cases h
/-! ### the queue -/
/-- a machine whose calls put small numbers into a queue of N places, or take -/
structure QM (N : Nat) (m : Mach) : Prop where
  ws : m.words = [0]
  c0 : m.codes.getD 0 [] = qputCode N
  c1 : m.codes.getD 1 [] = qtakeCode
  call : ∀ (n nx : Nat) (c : VCall), callOf m n nx = some c → c = ⟨1, []⟩ ∨ ∃ v, c = ⟨0, [v]⟩ ∧ 0 ≤ v ∧ v < 64
def QP (N : Nat) (c : VCall) (ph : Ph) (t : Th) : Prop := (∃ v, c = ⟨0, [v]⟩ ∧ 0 ≤ v ∧ v < 64 ∧ QPut N v ph t) ∨ (c = ⟨1, []⟩ ∧ QTake N ph t)
theorem queue_obj {N : Nat} {m : Mach} (hN : 1 ≤ N ∧ N ≤ 8) (M : QM N m) : ObjM true N m (fun _ => QP N) (fun _ ws l => ws = [qenc l] ∧ QV N l) where
  call := fun n nx c h => by
    rcases M.call n nx c h with rfl | ⟨v, rfl, h1, h2⟩
    · exact .inr ⟨rfl, rfl⟩
    · exact .inl ⟨rfl, v, rfl, h1⟩
  beg := fun ths ws l n nx c hG hn hc => by
    refine ⟨?_, hG⟩
    rcases M.call n nx c hc with rfl | ⟨v, rfl, h1, h2⟩
    · refine .inr ⟨rfl, ?_⟩
      show QTake N .no (vbegin (m.codes.getD 1 []).length [])
      rw [M.c1]
      exact .t0
    · refine .inl ⟨v, rfl, h1, h2, ?_⟩
      show QPut N v .no (vbegin (m.codes.getD 0 []).length [v])
      rw [M.c0]
      exact .p0
  act := fun ths ws l n nx t c ph hG hn hc hP => by
    obtain ⟨hw, hl⟩ := hG
    rw [hw]
    refine ⟨fun n' nx' t' c' ph'' _ _ _ h => h, ?_⟩
    rcases hP with ⟨v, rfl, h1, h2, hP⟩ | ⟨rfl, hP⟩
    · have hs := qput_step hN ⟨h1, h2⟩ hP hl
      show ∃ ph' l', (vstep (m.codes.getD 0 []) t [qenc l]).1.err = 0 ∧ _
      rw [M.c0]
      obtain ⟨ph', l', e1, e2, e3, e4⟩ := hs
      refine ⟨ph', l', e3, ?_⟩
      rcases e4 with ⟨f1, f2, f3⟩ | ⟨f1, f2, f3, f4⟩
      · exact .inl ⟨f1, f2, .inl ⟨v, rfl, h1, h2, f3⟩, e1, e2⟩
      · exact .inr ⟨f1, f2, f3, f4, e1, e2⟩
    · have hs := qtake_step hN hP hl
      show ∃ ph' l', (vstep (m.codes.getD 1 []) t [qenc l]).1.err = 0 ∧ _
      rw [M.c1]
      obtain ⟨ph', l', e1, e2, e3, e4⟩ := hs
      refine ⟨ph', l', e3, ?_⟩
      rcases e4 with ⟨f1, f2, f3⟩ | ⟨f1, f2, f3, f4⟩
      · exact .inl ⟨f1, f2, .inr ⟨rfl, f3⟩, e1, e2⟩
      · exact .inr ⟨f1, f2, f3, f4, e1, e2⟩
theorem queue_play {N : Nat} {m : Mach} (hN : 1 ≤ N ∧ N ≤ 8) (M : QM N m) (l : List Nat) :
    (∃ H s, LI true N m (QP N) l.length (play m l).ths (doings (play m l).evs) H s) ∧ SeqDs (doings (play m l).evs) ∧ NoErr (play m l).evs := by
  obtain ⟨⟨H, s, _, h⟩, h2, h3⟩ := log_play2 (queue_obj hN M) (by rw [M.ws]; exact ⟨rfl, Nat.zero_le _, fun x hx => by cases hx⟩) l
  exact ⟨⟨H, s, h⟩, h2, h3⟩
theorem ocallOf {ws : List Int} {k1 k2 : List Op5} {off : Nat} {kinds : List Bool} {calls n nx : Nat} {c : VCall} (h : callOf (omach ws k1 k2 off kinds calls) n nx = some c) : n < 3 ∧ 3 * nx + n < calls ∧ c = ocall off kinds (3 * nx + n) := by
  unfold callOf omach at h
  simp only at h
  rw [List.getElem?_map] at h
  obtain ⟨l, hl, h⟩ := Option.bind_eq_some_iff.1 h
  obtain ⟨u, hu, rfl⟩ := Option.map_eq_some_iff.1 hl
  have hn : n < 3 := by simpa using (List.getElem?_eq_some_iff.1 hu).1
  obtain rfl : n = u := by
    obtain ⟨h1, h2⟩ := List.getElem?_eq_some_iff.1 hu
    simpa using h2
  rw [oths_at off kinds calls n nx hn] at h
  split at h
  · injection h with h; exact ⟨hn, by assumption, h.symm⟩
  · cases h
theorem omach_qm {N off calls : Nat} {kinds : List Bool} (h : off + calls ≤ 64) : QM N (omach [0] (qputCode N) qtakeCode off kinds calls) where
  ws := rfl
  c0 := rfl
  c1 := rfl
  call := fun n nx c hc => by
    obtain ⟨h1, h2, rfl⟩ := ocallOf hc
    unfold ocall
    split
    · exact .inl rfl
    · exact .inr ⟨_, rfl, by omega, by omega⟩
/-! ### order -/
def putsV (H : List Lg) : List Int := (H.filter fun x => x.put).map Lg.v
def takesV (H : List Lg) : List Int := (H.filter fun x => !x.put && x.v != -1).map Lg.v
theorem oseq_queue : ∀ {H : List Lg} {has l : List Int}, OSeq true has H l → (∀ y ∈ has, y ≠ -1) → (∀ x ∈ H, x.put = true → x.v ≠ -1) → has ++ putsV H = takesV H ++ l
  | [], has, l, h, _, _ => by
    have h : l = has := h
    subst h; simp [putsV, takesV]
  | x :: H, has, l, h, h1, h2 => by
    obtain ⟨a, b⟩ := h
    have h2' := fun y hy => h2 y (List.mem_cons_of_mem x hy)
    cases hp : x.put with
    | true =>
      rw [hp] at a b
      have ih := oseq_queue b (fun y hy => by
        rcases List.mem_append.1 (show y ∈ has ++ [x.v] from hy) with h3 | h3
        · exact h1 y h3
        · rw [List.mem_singleton.1 h3]; exact h2 x List.mem_cons_self hp) h2'
      have e : (otell true has true x.v).2 = has ++ [x.v] := rfl
      rw [e] at ih
      unfold putsV takesV at ih ⊢
      rw [List.filter_cons_of_pos (by simpa using hp), List.filter_cons_of_neg (by simp [hp]), List.map_cons, ← ih]
      simp
    | false =>
      rw [hp] at a b
      match has, h1, a, b with
      | [], h1, a, b =>
        have a : (-1 : Int) = x.v := a
        have ih := oseq_queue b (fun y hy => by cases hy) h2'
        unfold putsV takesV at ih ⊢
        rw [List.filter_cons_of_neg (by simp [hp]), List.filter_cons_of_neg (by simp [← a])]
        exact ih
      | z :: has, h1, a, b =>
        have a : z = x.v := a
        have hz := h1 z List.mem_cons_self
        have ih := oseq_queue b (fun y hy => h1 y (List.mem_cons_of_mem _ hy)) h2'
        unfold putsV takesV at ih ⊢
        rw [List.filter_cons_of_neg (by simp [hp]), List.filter_cons_of_pos (by simp [hp, ← a, hz]), List.map_cons, List.cons_append, List.cons_append, ← ih, ← a]
        rfl
end Go.Proofs.YtiinnkdhccgelaaDoor
